/-
  What the functions of the program compute: printed by program (gen2.py).
-/
import Derived.Test.YtbhbpfdjlabamaaGreatData
set_option linter.all false
set_option linter.unusedVariables false
set_option linter.unusedSimpArgs false
namespace Go.Proofs.YtbhbpfdjlabamaaGreat
open Go

def F336 (p0 : Int) (p1 : Int) : Option (Int) :=
  Let (icon .u64 p1) fun x1 =>
  Let (iand .u64 x1 63) fun x2 =>
  Gd (0 ≤ x2) (
  Let (ishl .u64 p0 x2) fun x4 =>
  Let (isub .u64 64 x2) fun x5 =>
  Gd (0 ≤ x5) (
  Let (ishr .u64 p0 x5) fun x7 =>
  Let (ior .u64 x4 x7) fun x8 =>
  some (x8)))

def F325 (p0 : Int) (p1 : Int) (p2 : Int) : Option (Int) :=
  Let (isub .i64 0 p1) fun x1 =>
  Bd (F336 p0 x1) fun y2 =>
  Let (ixor .u64 p0 y2) fun x3 =>
  Let (isub .i64 0 p2) fun x4 =>
  Bd (F336 p0 x4) fun y5 =>
  Let (ixor .u64 x3 y5) fun x6 =>
  some (x6)

def F293_l1 (j147 : (Vector Int 5)) : Nat → Int → (Vector Int 5) → Option ((Vector Int 5))
  | 0, _, _ => none
  | k + 1, j287, j288 =>
  Let (decide (j287 < 5)) fun x289 =>
  Br x289 (
  Gd (0 ≤ j287 ∧ j287 < 5) (
  Let ((vat j288 j287)) fun x303 =>
  Let (iadd .i64 j287 1) fun x304 =>
  Let (irem x304 5) fun x305 =>
  Gd (0 ≤ x305 ∧ x305 < 5) (
  Let ((vat j147 x305)) fun x307 =>
  Let (ixor .u64 x303 x307) fun x308 =>
  Gd (0 ≤ j287 ∧ j287 < 5) (
  Let ((vup j288 j287 x308)) fun c310 =>
  Let (iadd .i64 j287 1) fun x311 =>
  ((F293_l1 j147 k) x311 c310))))) (
  Let ((vat j288 (1 : Int))) fun x312 =>
  Let ((vat j288 (0 : Int))) fun x313 =>
  Let (ixor .u64 x312 x313) fun x314 =>
  Let ((vup j288 (1 : Int) x314)) fun c315 =>
  Let ((vat c315 (0 : Int))) fun x316 =>
  Let ((vat c315 (4 : Int))) fun x317 =>
  Let (ixor .u64 x316 x317) fun x318 =>
  Let ((vup c315 (0 : Int) x318)) fun c319 =>
  Let ((vat c319 (3 : Int))) fun x320 =>
  Let ((vat c319 (2 : Int))) fun x321 =>
  Let (ixor .u64 x320 x321) fun x322 =>
  Let ((vup c319 (3 : Int) x322)) fun c323 =>
  Let ((vat c323 (2 : Int))) fun x324 =>
  Let (inot .u64 x324) fun x325 =>
  Let ((vup c323 (2 : Int) x325)) fun c326 =>
  Let ((vat c326 (0 : Int))) fun x327 =>
  Let ((vat c326 (1 : Int))) fun x328 =>
  Let ((vat c326 (2 : Int))) fun x329 =>
  Let ((vat c326 (3 : Int))) fun x330 =>
  Let ((vat c326 (4 : Int))) fun x331 =>
  Bd (F325 x327 19 28) fun y332 =>
  Bd (F325 x328 61 39) fun y333 =>
  Bd (F325 x329 1 6) fun y334 =>
  Bd (F325 x330 10 17) fun y335 =>
  Bd (F325 x331 7 41) fun y336 =>
  Let ((vup (vup (vup (vup (vup (Vector.replicate 5 (0 : Int)) (0 : Int) y332) (1 : Int) y333) (2 : Int) y334) (3 : Int) y335) (4 : Int) y336)) fun x337 =>
  some (x337))

def F293_l0 (c20 : (Vector Int 5)) : Nat → Int → (Vector Int 5) → Option ((Vector Int 5))
  | 0, _, _ => none
  | k + 1, j146, j147 =>
  Let (decide (j146 < 5)) fun x148 =>
  Br x148 (
  Gd (0 ≤ j146 ∧ j146 < 5) (
  Let ((vat c20 j146)) fun x163 =>
  Let (inot .u64 x163) fun x164 =>
  Let (iadd .i64 j146 1) fun x165 =>
  Let (irem x165 5) fun x166 =>
  Gd (0 ≤ x166 ∧ x166 < 5) (
  Let ((vat c20 x166)) fun x168 =>
  Let (iand .u64 x164 x168) fun x169 =>
  Gd (0 ≤ j146 ∧ j146 < 5) (
  Let ((vup j147 j146 x169)) fun c171 =>
  Let (iadd .i64 j146 1) fun x172 =>
  ((F293_l0 c20 k) x172 c171))))) (
  (F293_l1 j147 FUEL 0 c20))

def F293 (p0 : (Vector Int 5)) (p1 : Int) : Option ((Vector Int 5)) :=
  Let ((vat p0 (2 : Int))) fun x3 =>
  Let (imul .i64 15 p1) fun x4 =>
  Let (isub .i64 240 x4) fun x5 =>
  Let (icon .u64 x5) fun x6 =>
  Let (ixor .u64 x3 x6) fun x7 =>
  Let ((vup p0 (2 : Int) x7)) fun c8 =>
  Let ((vat c8 (0 : Int))) fun x9 =>
  Let ((vat c8 (4 : Int))) fun x10 =>
  Let (ixor .u64 x9 x10) fun x11 =>
  Let ((vup c8 (0 : Int) x11)) fun c12 =>
  Let ((vat c12 (4 : Int))) fun x13 =>
  Let ((vat c12 (3 : Int))) fun x14 =>
  Let (ixor .u64 x13 x14) fun x15 =>
  Let ((vup c12 (4 : Int) x15)) fun c16 =>
  Let ((vat c16 (2 : Int))) fun x17 =>
  Let ((vat c16 (1 : Int))) fun x18 =>
  Let (ixor .u64 x17 x18) fun x19 =>
  Let ((vup c16 (2 : Int) x19)) fun c20 =>
  (F293_l0 c20 FUEL 0 (Vector.replicate 5 (0 : Int)))

def F235_l0 : Nat → Int → (Vector Int 5) → Option ((Vector Int 5))
  | 0, _, _ => none
  | k + 1, j19, j20 =>
  Let (decide (j19 < 12)) fun x21 =>
  Br x21 (
  Bd (F293 j20 j19) fun y26 =>
  Let (iadd .i64 j19 1) fun x27 =>
  ((F235_l0 k) x27 y26)) (
  some (j20))

def F235 (p0 : (Vector Int 5)) : Option ((Vector Int 5)) :=
  (F235_l0 FUEL 0 p0)

def F236_l0 (x1 : Int) (p0 : (List Int)) : Nat → Int → Int → Option (Int)
  | 0, _, _ => none
  | k + 1, j42, j43 =>
  Let (decide (j43 < x1)) fun x44 =>
  Br x44 (
  Gd ((0 : Int) ≤ j43 ∧ j43 < (p0.length : Int)) (
  Let ((lat p0 j43)) fun x58 =>
  Let (ishl .u64 j42 8) fun x59 =>
  Let (icon .u64 x58) fun x60 =>
  Let (ior .u64 x59 x60) fun x61 =>
  Let (iadd .i64 j43 1) fun x62 =>
  ((F236_l0 x1 p0 k) x61 x62))) (
  some (j42))

def F236 (p0 : (List Int)) : Option (Int) :=
  Let ((p0.length : Int)) fun x1 =>
  (F236_l0 x1 p0 FUEL 0 0)

def F153_l4 (j1011 : Int) (j1013 : (Vector Int 5)) (rec3 : Int → (Vector Int 32) → (Vector Int 5) → Option ((Vector Int 32))) : Nat → Int → (Vector Int 32) → Option ((Vector Int 32))
  | 0, _, _ => none
  | k + 1, j1310, j1311 =>
  Let (decide (j1310 < 8)) fun x1312 =>
  Br x1312 (
  Let (imul .i64 j1011 8) fun x1326 =>
  Let (iadd .i64 x1326 j1310) fun x1327 =>
  Let ((vat j1013 (0 : Int))) fun x1328 =>
  Let (isub .i64 7 j1310) fun x1329 =>
  Let (imul .i64 8 x1329) fun x1330 =>
  Gd (0 ≤ x1330) (
  Let (ishr .u64 x1328 x1330) fun x1332 =>
  Let (icon .u8 x1332) fun x1333 =>
  Gd (0 ≤ x1327 ∧ x1327 < 32) (
  Let ((vup j1311 x1327 x1333)) fun c1335 =>
  Let (iadd .i64 j1310 1) fun x1336 =>
  ((F153_l4 j1011 j1013 rec3 k) x1336 c1335)))) (
  Bd (F235 j1013) fun y1337 =>
  Let (iadd .i64 j1011 1) fun x1338 =>
  (rec3 x1338 j1311 y1337))

def F153_l3 : Nat → Int → (Vector Int 32) → (Vector Int 5) → Option ((Vector Int 32))
  | 0, _, _, _ => none
  | k + 1, j1011, j1012, j1013 =>
  Let (decide (j1011 < 4)) fun x1014 =>
  Br x1014 (
  (F153_l4 j1011 j1013 (F153_l3 k) FUEL 0 j1012)) (
  some (j1012))

def F153_l2 : Nat → (List Int) → (Vector Int 5) → Option ((Vector Int 32))
  | 0, _, _ => none
  | k + 1, j337, j338 =>
  Let ((j337.length : Int)) fun x339 =>
  Let (decide (0 < x339)) fun x340 =>
  Br x340 (
  Let ((vat j338 (0 : Int))) fun x350 =>
  Gd (0 ≤ (0 : Int) ∧ (0 : Int) ≤ (8 : Int) ∧ (8 : Int) ≤ (j337.length : Int)) (
  Bd (F236 (cut j337 (0 : Int) (8 : Int))) fun y352 =>
  Let (ixor .u64 x350 y352) fun x353 =>
  Let ((vup j338 (0 : Int) x353)) fun c354 =>
  Bd (F235 c354) fun y355 =>
  Gd (0 ≤ (8 : Int) ∧ (8 : Int) ≤ (j337.length : Int) ∧ (j337.length : Int) ≤ (j337.length : Int)) (
  ((F153_l2 k) (cut j337 (8 : Int) (j337.length : Int)) y355)))) (
  (F153_l3 FUEL 0 (Vector.replicate 32 (0 : Int)) j338))

def F153_l1 : Nat → (List Int) → Option ((Vector Int 32))
  | 0, _ => none
  | k + 1, j223 =>
  Let ((j223.length : Int)) fun x224 =>
  Let (irem x224 8) fun x225 =>
  Let (decide (x225 ≠ 0)) fun x226 =>
  Br x226 (
  Let ((j223 ++ ([0] : (List Int)))) fun l230 =>
  Gd (l230.length ≤ LIM) (
  ((F153_l1 k) l230))) (
  Let ((vup (Vector.replicate 5 (0 : Int)) (0 : Int) 32)) fun x233 =>
  Bd (F235 x233) fun y234 =>
  (F153_l2 FUEL j223 y234))

def F153_l0 (x2 : Int) (p0 : (List (List Int))) : Nat → (List Int) → Int → Option ((Vector Int 32))
  | 0, _, _ => none
  | k + 1, j139, j140 =>
  Let (decide (j140 < x2)) fun x141 =>
  Br x141 (
  Gd ((0 : Int) ≤ j140 ∧ j140 < (p0.length : Int)) (
  Let ((lat p0 j140)) fun y160 =>
  Let ((j139 ++ y160)) fun l162 =>
  Gd (l162.length ≤ LIM) (
  Let (iadd .i64 j140 1) fun x165 =>
  ((F153_l0 x2 p0 k) l162 x165)))) (
  Let ((j139 ++ ([128] : (List Int)))) fun l167 =>
  Gd (l167.length ≤ LIM) (
  (F153_l1 FUEL l167)))

def F153 (p0 : (List (List Int))) : Option ((Vector Int 32)) :=
  Let ((p0.length : Int)) fun x2 =>
  (F153_l0 x2 p0 FUEL [] 0)

def F83 (p0 : (Vector Int 32)) (p1 : ByteArray) (p2 : (List (List Int))) : Option ((Vector Int 32)) :=
  Let ((p1.size : Int)) fun x3 =>
  Let (icon .u8 x3) fun x4 =>
  Gd (p1.size ≤ LIM) (
  Let ((([p0.toList, ([x4] : (List Int)), (sbytes p1)] : (List (List Int))) ++ p2)) fun l10 =>
  Gd (l10.length ≤ LIM) (
  Bd (F153 l10) fun y14 =>
  some (y14)))

def F251_l0 (x2 : Int) (p0 : (Vector Int 32)) (p1 : Int) : Nat → Int → Int → Option (Int)
  | 0, _, _ => none
  | k + 1, j105, j106 =>
  Let (decide (j106 < x2)) fun x107 =>
  Br x107 (
  Gd ((0 : Int) ≤ j106 ∧ j106 < ((cut p0.toList (0 : Int) (8 : Int)).length : Int)) (
  Let ((lat (cut p0.toList (0 : Int) (8 : Int)) j106)) fun x121 =>
  Let (ishl .u64 j105 8) fun x122 =>
  Let (icon .u64 x121) fun x123 =>
  Let (ior .u64 x122 x123) fun x124 =>
  Let (iadd .i64 j106 1) fun x125 =>
  ((F251_l0 x2 p0 p1 k) x124 x125))) (
  Let (icon .u64 p1) fun x126 =>
  Gd (x126 ≠ 0) (
  Let (irem j105 x126) fun x128 =>
  Let (icon .i64 x128) fun x129 =>
  some (x129)))

def F251 (p0 : (Vector Int 32)) (p1 : Int) : Option (Int) :=
  Let (((cut p0.toList (0 : Int) (8 : Int)).length : Int)) fun x2 =>
  (F251_l0 x2 p0 p1 FUEL 0 0)

def F173 (p0 : (Vector Int 32)) : Option (Int) :=
  Bd (F251 p0 1073741788) fun y2 =>
  Let (iadd .i64 y2 1) fun x3 =>
  some (x3)

def F152 (p0 : (Vector Int 32)) : Option ((Option Int)) :=
  Bd (F173 p0) fun y2 =>
  some ((some y2))

def F80 (p0 : (Vector Int 32)) : Option ((Option Int)) :=
  Bd (F83 p0 (⟨#[115, 105, 103, 110]⟩ : ByteArray) []) fun y2 =>
  Bd (F152 y2) fun y3 =>
  some (y3)

def F81 (p0 : (Vector Int 32)) : Option ((Vector Int 32)) :=
  Bd (F83 p0 (⟨#[108, 101, 97, 102]⟩ : ByteArray) []) fun y3 =>
  some (y3)

def F253 (p0 : Int) : Option (Bool) :=
  Let (decide (0 ≤ p0)) fun x1 =>
  Br x1 (
  Let (decide (p0 < 2147483579)) fun x2 =>
  some (x2)) (
  some (false))

def F239_j0 (p0 : Int) (p1 : Int) (j7 : Bool) : Option (Int) :=
  Br j7 (
  some (0)) (
  Let (imul .i64 p0 p1) fun x3_8 =>
  Let (irem x3_8 2147483579) fun x4_8 =>
  some (x4_8))

def F239 (p0 : Int) (p1 : Int) : Option (Int) :=
  Bd (F253 p0) fun y1 =>
  Let (!y1) fun x2 =>
  Br x2 (
  (F239_j0 p0 p1 true)) (
  Bd (F253 p1) fun y4 =>
  Let (!y4) fun x5 =>
  (F239_j0 p0 p1 x5))

def F176_j1 (j40_9 : Int) (j41_9 : Int) (rec0 : Int → Int → Int → Option (Int)) (j58_9 : Int) : Option (Int) :=
  Bd (F239 j40_9 j40_9) fun y1_9_59 =>
  Let (ishr .i64 j41_9 1) fun x2_9_59 =>
  (rec0 y1_9_59 x2_9_59 j58_9)

def F176_l0 : Nat → Int → Int → Int → Option (Int)
  | 0, _, _, _ => none
  | k + 1, j40_9, j41_9, j42_9 =>
  Let (decide (0 < j41_9)) fun x43_9 =>
  Br x43_9 (
  Let (iand .i64 j41_9 1) fun x53_9 =>
  Let (decide (x53_9 = 1)) fun x54_9 =>
  Br x54_9 (
  Bd (F239 j42_9 j40_9) fun y55_9 =>
  (F176_j1 j40_9 j41_9 (F176_l0 k) y55_9)) (
  (F176_j1 j40_9 j41_9 (F176_l0 k) j42_9))) (
  some (j42_9))

def F176_j0 (p0 : Int) (p1 : Int) (j8 : Bool) : Option (Int) :=
  Br j8 (
  some (0)) (
  (F176_l0 FUEL p0 p1 1))

def F176 (p0 : Int) (p1 : Int) : Option (Int) :=
  Bd (F253 p0) fun y1 =>
  Let (!y1) fun x2 =>
  Br x2 (
  (F176_j0 p0 p1 true)) (
  Let (decide (p1 < 0)) fun x4 =>
  Br x4 (
  (F176_j0 p0 p1 true)) (
  Let (decide (1073741789 < p1)) fun x6 =>
  (F176_j0 p0 p1 x6)))

def F114 (p0 : Option Int) : Option Int :=
  Mo p0 (some 0) fun s =>
  Bd (F176 4 s) fun y =>
  Gd (y = PUB s) (some y)

def F129 (p0 : (Vector Int 32)) : Option ((Option Int)) :=
  Bd (F83 p0 (⟨#[110, 111, 100, 101]⟩ : ByteArray) []) fun y2 =>
  Bd (F152 y2) fun y3 =>
  some (y3)

def F82 (p0 : (Vector Int 32)) : Option (SLeaf) :=
  Bd (F80 p0) fun y3 =>
  Bd (F114 y3) fun y5 =>
  Bd (F81 p0) fun y6 =>
  Bd (F129 y6) fun y7 =>
  Bd (F114 y7) fun y9 =>
  Let ({ { SLeaf.zero with Sign := y5 } with Seal := y9 }) fun x10 =>
  some (x10)

def F28 (p0 : (Vector Int 32)) : Option ((Option SpartyParty)) :=
  Bd (F80 p0) fun y2 =>
  Bd (F81 p0) fun y4 =>
  Let ({ SView.zero with K := 1 }) fun c6 =>
  Let ({ c6 with Admins := (vup c6.Admins (0 : Int) true) }) fun c7 =>
  Bd (F82 p0) fun y8 =>
  Let ({ c7 with Tree := { c7.Tree with Leaves := (vup c7.Tree.Leaves (0 : Int) y8) } }) fun c9 =>
  Bd (F83 y4 (⟨#[102, 105, 114, 115, 116]⟩ : ByteArray) []) fun y10 =>
  Bd (F83 y10 (⟨#[105, 110, 105, 116]⟩ : ByteArray) []) fun y11 =>
  some ((some (⟨c9, (0 : Int), y2, y4, (Vector.replicate 3 false), (Vector.replicate 3 (Vector.replicate 32 (0 : Int))), y10, y11⟩ : SpartyParty)))

def F40 (p0 : (Option SpartyParty)) : Option (SView) :=
  Mo p0 (
  some (SView.zero)) fun x2 => (
  Let (x2.v) fun x9 =>
  some (x9))

def F44 (p0 : (Option SpartyParty)) (p1 : ByteArray) : Option ((Vector Int 32)) :=
  Mo p0 (
  some ((Vector.replicate 32 (0 : Int)))) fun x2 => (
  Let (x2.epoch) fun x9 =>
  Gd (p1.size ≤ LIM) (
  Bd (F83 x9 (⟨#[101, 120, 112, 111, 114, 116]⟩ : ByteArray) ([(sbytes p1)] : (List (List Int)))) fun y13 =>
  some (y13)))

def F201 (p0 : Int) : Option (Bool) :=
  Let (decide (1 < p0)) fun x1 =>
  Br x1 (
  Let (decide (p0 < 2147483579)) fun x2 =>
  Br x2 (
  Bd (F176 p0 1073741789) fun y3 =>
  Let (decide (y3 = 1)) fun x4 =>
  some (x4)) (
  some (false))) (
  some (false))

def F294 (p0 : Int) : Option (Bool) :=
  Let (decide (p0 = 0)) fun x1 =>
  Br x1 (
  some (true)) (
  Bd (F201 p0) fun y2 =>
  some (y2))

def F240_j0 (j208 : Int) (rec0 : Int → Option (Bool)) (j248 : Bool) : Option (Bool) :=
  Br j248 (
  some (false)) (
  Let (iadd .i64 j208 1) fun x1_249 =>
  (rec0 x1_249))

def F240_j1 (j304 : Int) (rec1 : Int → Option (Bool)) (j330 : Bool) : Option (Bool) :=
  Br j330 (
  some (false)) (
  Let (iadd .i64 j304 1) fun x1_331 =>
  (rec1 x1_331))

def F240_l1 (x250 : (Vector Int 15)) : Nat → Int → Option (Bool)
  | 0, _ => none
  | k + 1, j304 =>
  Let (decide (j304 < 15)) fun x305 =>
  Br x305 (
  Gd (0 ≤ j304 ∧ j304 < 15) (
  Let ((vat x250 j304)) fun x321 =>
  Bd (F294 x321) fun y322 =>
  Let (!y322) fun x323 =>
  Br x323 (
  (F240_j1 j304 (F240_l1 x250 k) true)) (
  Let (irem j304 2) fun x325 =>
  Let (decide (x325 = 0)) fun x326 =>
  Br x326 (
  Let (decide (x321 ≠ 0)) fun x327 =>
  (F240_j1 j304 (F240_l1 x250 k) x327)) (
  (F240_j1 j304 (F240_l1 x250 k) false))))) (
  some (true))

def F240_l0 (x2 : (Vector SLeaf 8)) (p0 : STree) : Nat → Int → Option (Bool)
  | 0, _ => none
  | k + 1, j208 =>
  Let (decide (j208 < 8)) fun x209 =>
  Br x209 (
  Gd (0 ≤ j208 ∧ j208 < 8) (
  Let ((vat x2 j208)) fun x232 =>
  Let (x232.Sign) fun x234 =>
  Bd (F294 x234) fun y235 =>
  Let (!y235) fun x236 =>
  Br x236 (
  (F240_j0 j208 (F240_l0 x2 p0 k) true)) (
  Let (x232.Seal) fun x238 =>
  Bd (F294 x238) fun y239 =>
  Let (!y239) fun x240 =>
  Br x240 (
  (F240_j0 j208 (F240_l0 x2 p0 k) true)) (
  Let (x232.Sign) fun x242 =>
  Let (decide (x242 = 0)) fun x243 =>
  Let (x232.Seal) fun x244 =>
  Let (decide (x244 = 0)) fun x245 =>
  Let (decide (x243 ≠ x245)) fun x246 =>
  (F240_j0 j208 (F240_l0 x2 p0 k) x246))))) (
  Let (p0.Nodes) fun x250 =>
  (F240_l1 x250 FUEL 0))

def F240 (p0 : STree) : Option (Bool) :=
  Let (p0.Leaves) fun x2 =>
  (F240_l0 x2 p0 FUEL 0)

def F162 (p0 : SView) (p1 : Int) : Option (Bool) :=
  Let (decide (0 ≤ p1)) fun x2 =>
  Br x2 (
  Let (decide (p1 < 8)) fun x3 =>
  Br x3 (
  Gd (0 ≤ p1 ∧ p1 < 8) (
  Let ((vat p0.Tree.Leaves p1)) fun x5 =>
  Let (decide (x5 ≠ SLeaf.zero)) fun x6 =>
  some (x6))) (
  some (false))) (
  some (false))

def F164_j0 (j33 : Int) (rec0 : Int → Int → Option (Int)) (j46 : Int) : Option (Int) :=
  Let (iadd .i64 j33 1) fun x1_47 =>
  (rec0 j46 x1_47)

def F164_j1 (j32 : Int) (j33 : Int) (rec0 : Int → Int → Option (Int)) (j43 : Bool) (j44 : Bool) : Option (Int) :=
  Br j44 (
  some ((-1))) (
  Br j43 (
  Let (iadd .i64 j32 1) fun x4_45 =>
  (F164_j0 j33 rec0 x4_45)) (
  (F164_j0 j33 rec0 j32)))

def F164_l0 (x2 : (Vector Bool 8)) (p0 : SView) : Nat → Int → Int → Option (Int)
  | 0, _, _ => none
  | k + 1, j32, j33 =>
  Let (decide (j33 < 8)) fun x34 =>
  Br x34 (
  Gd (0 ≤ j33 ∧ j33 < 8) (
  Let ((vat x2 j33)) fun x38 =>
  Br x38 (
  Bd (F162 p0 j33) fun y39 =>
  Let (!y39) fun x40 =>
  (F164_j1 j32 j33 (F164_l0 x2 p0 k) true x40)) (
  (F164_j1 j32 j33 (F164_l0 x2 p0 k) false false)))) (
  some (j32))

def F164 (p0 : SView) : Option (Int) :=
  Let (p0.Admins) fun x2 =>
  (F164_l0 x2 p0 FUEL 0 0)

def F160 (p0 : SView) : Option (Bool) :=
  Let (p0.Epoch) fun x2 =>
  Let (decide (0 ≤ x2)) fun x3 =>
  Br x3 (
  Let (p0.Epoch) fun x4 =>
  Let (decide (x4 ≤ 1099511627776)) fun x5 =>
  Br x5 (
  Let (p0.Tree) fun x6 =>
  Bd (F240 x6) fun y7 =>
  Br y7 (
  Let (p0.K) fun x8 =>
  Let (decide (1 ≤ x8)) fun x9 =>
  Br x9 (
  Let (p0.K) fun x10 =>
  Bd (F164 p0) fun y11 =>
  Let (decide (x10 ≤ y11)) fun x12 =>
  some (x12)) (
  some (false))) (
  some (false))) (
  some (false))) (
  some (false))

def F297_l0 (x2 : Int) (p0 : (List SLeaf)) (p1 : SLeaf) : Nat → Int → Option (Int)
  | 0, _ => none
  | k + 1, j36 =>
  Let (decide (j36 < x2)) fun x37 =>
  Br x37 (
  Gd ((0 : Int) ≤ j36 ∧ j36 < (p0.length : Int)) (
  Let ((lat p0 j36)) fun x50 =>
  Let (decide (p1 = x50)) fun x51 =>
  Br x51 (
  some (j36)) (
  Let (iadd .i64 j36 1) fun x52 =>
  ((F297_l0 x2 p0 p1 k) x52)))) (
  some ((-1)))

def F297 (p0 : (List SLeaf)) (p1 : SLeaf) : Option (Int) :=
  Let ((p0.length : Int)) fun x2 =>
  (F297_l0 x2 p0 p1 FUEL 0)

def F245 (p0 : Int) : Option (Bool) :=
  Let (decide (0 ≤ p0)) fun x1 =>
  Br x1 (
  Let (decide (p0 < 8)) fun x2 =>
  some (x2)) (
  some (false))

def F246 (p0 : Int) (p1 : Int) : Option (Int) :=
  Gd (0 ≤ p1) (
  Let (ishl .i64 1 p1) fun x2 =>
  Let (isub .i64 x2 1) fun x3 =>
  Let (iclr .i64 p0 x3) fun x4 =>
  Let (imul .i64 2 x4) fun x5 =>
  Let (iadd .i64 x5 x2) fun x6 =>
  Let (isub .i64 x6 1) fun x7 =>
  some (x7))

def F166_j0 (j28 : Int) (rec0 : Int → (Vector Int 3) → Option ((Vector Int 3))) (j40 : (Vector Int 3)) : Option ((Vector Int 3)) :=
  Let (iadd .i64 j28 1) fun x1_41 =>
  (rec0 x1_41 j40)

def F166_l0 (p0 : Int) : Nat → Int → (Vector Int 3) → Option ((Vector Int 3))
  | 0, _, _ => none
  | k + 1, j28, j29 =>
  Let (decide (j28 < 3)) fun x30 =>
  Br x30 (
  Bd (F245 p0) fun y33 =>
  Br y33 (
  Let (iadd .i64 j28 1) fun x34 =>
  Bd (F246 p0 x34) fun y35 =>
  Gd (0 ≤ j28 ∧ j28 < 3) (
  Let ((vup j29 j28 y35)) fun c37 =>
  (F166_j0 j28 (F166_l0 p0 k) c37))) (
  (F166_j0 j28 (F166_l0 p0 k) j29))) (
  some (j29))

def F166 (p0 : Int) : Option ((Vector Int 3)) :=
  (F166_l0 p0 FUEL 0 (Vector.replicate 3 (0 : Int)))

def F298_l0 (y10 : ((Vector Int 3))) : Nat → Int → STree → Option (STree)
  | 0, _, _ => none
  | k + 1, j37, j38 =>
  Let (decide (j37 < 3)) fun x39 =>
  Br x39 (
  Gd (0 ≤ j37 ∧ j37 < 3) (
  Let ((vat y10 j37)) fun x48 =>
  Gd (0 ≤ x48 ∧ x48 < 15) (
  Let ({ j38 with Nodes := (vup j38.Nodes x48 0) }) fun c50 =>
  Let (iadd .i64 j37 1) fun x51 =>
  ((F298_l0 y10 k) x51 c50)))) (
  some (j38))

def F298 (p0 : STree) (p1 : Int) (p2 : SLeaf) : Option (STree) :=
  Bd (F245 p1) fun y4 =>
  Let (!y4) fun x5 =>
  Br x5 (
  some (STree.zero)) (
  Gd (0 ≤ p1 ∧ p1 < 8) (
  Let ({ p0 with Leaves := (vup p0.Leaves p1 p2) }) fun c9 =>
  Bd (F166 p1) fun y10 =>
  (F298_l0 y10 FUEL 0 c9)))

def F295c51 (p0 : SLeaf) (p1 : SLeaf) : Option (Bool) :=
  Let (p0.Sign) fun x2 =>
  Let (p1.Sign) fun x3 =>
  Let (decide (x2 = x3)) fun x4 =>
  some (x4)

def F326_295c51_l0 (x1 : Int) (p0 : (List SLeaf)) (p1c0 : SLeaf) : Nat → Int → Option (Int)
  | 0, _ => none
  | k + 1, j35 =>
  Let (decide (j35 < x1)) fun x36 =>
  Br x36 (
  Gd ((0 : Int) ≤ j35 ∧ j35 < (p0.length : Int)) (
  Let ((lat p0 j35)) fun x49 =>
  Bd (F295c51 x49 p1c0) fun y50 =>
  Br y50 (
  some (j35)) (
  Let (iadd .i64 j35 1) fun x51 =>
  ((F326_295c51_l0 x1 p0 p1c0 k) x51)))) (
  some ((-1)))

def F326_295c51 (p0 : (List SLeaf)) (p1c0 : SLeaf) : Option (Int) :=
  Let ((p0.length : Int)) fun x1 =>
  (F326_295c51_l0 x1 p0 p1c0 FUEL 0)

def F296_295c51 (p0 : (List SLeaf)) (p1c0 : SLeaf) : Option (Bool) :=
  Bd (F326_295c51 p0 p1c0) fun y1 =>
  Let (decide (0 ≤ y1)) fun x2 =>
  some (x2)

def F242_j0 (p0 : Sviewchange) (p1 : SLeaf) (j12 : Bool) : Option (Int × Sviewchange) :=
  Br j12 (
  some (7, p0)) (
  Bd (F297 p0.v.Tree.Leaves.toList SLeaf.zero) fun y3_13 =>
  Let (decide (y3_13 < 0)) fun x4_13 =>
  Br x4_13 (
  some (12, p0)) (
  Let (p0.v.Tree) fun x7_13 =>
  Bd (F298 x7_13 y3_13 p1) fun y8_13 =>
  Let ({ p0 with v := { p0.v with Tree := y8_13 } }) fun c9_13 =>
  Gd (0 ≤ y3_13 ∧ y3_13 < 8) (
  Let ({ c9_13 with added := (vup c9_13.added y3_13 true) }) fun c11_13 =>
  some (0, c11_13))))

def F242 (p0 : Sviewchange) (p1 : SLeaf) : Option (Int × Sviewchange) :=
  Let (p1.Sign) fun x2 =>
  Bd (F201 x2) fun y3 =>
  Let (!y3) fun x4 =>
  Br x4 (
  (F242_j0 p0 p1 true)) (
  Let (p1.Seal) fun x6 =>
  Bd (F201 x6) fun y7 =>
  Let (!y7) fun x8 =>
  Br x8 (
  (F242_j0 p0 p1 true)) (
  Bd (F296_295c51 p0.v.Tree.Leaves.toList p1) fun y10 =>
  (F242_j0 p0 p1 y10)))

def F243_j0 (p0 : Sviewchange) (p1 : Int) (j8 : Bool) : Option (Int × Sviewchange) :=
  Br j8 (
  some (7, p0)) (
  Let (p0.v.Tree) fun x3_9 =>
  Bd (F298 x3_9 p1 SLeaf.zero) fun y4_9 =>
  Let ({ p0 with v := { p0.v with Tree := y4_9 } }) fun c5_9 =>
  Gd (0 ≤ p1 ∧ p1 < 8) (
  Let ({ c5_9 with v := { c5_9.v with Admins := (vup c5_9.v.Admins p1 false) } }) fun c7_9 =>
  Gd (0 ≤ p1 ∧ p1 < 8) (
  Let ({ c7_9 with added := (vup c7_9.added p1 false) }) fun c9_9 =>
  Gd (0 ≤ p1 ∧ p1 < 8) (
  Let ({ c9_9 with gone := (vup c9_9.gone p1 true) }) fun c11_9 =>
  some (0, c11_9)))))

def F243 (p0 : Sviewchange) (p1 : Int) : Option (Int × Sviewchange) :=
  Let (p0.v) fun x1 =>
  Bd (F162 x1 p1) fun y2 =>
  Let (!y2) fun x3 =>
  Br x3 (
  (F243_j0 p0 p1 true)) (
  Let (p0.from') fun x5 =>
  Let (decide (p1 = x5)) fun x6 =>
  (F243_j0 p0 p1 x6))

def F244_j0 (p0 : Sviewchange) (p1 : Int) (p2 : Bool) (j9 : Bool) : Option (Int × Sviewchange) :=
  Br j9 (
  some (7, p0)) (
  Gd (0 ≤ p1 ∧ p1 < 8) (
  Let ({ p0 with v := { p0.v with Admins := (vup p0.v.Admins p1 p2) } }) fun c4_10 =>
  some (0, c4_10)))

def F244 (p0 : Sviewchange) (p1 : Int) (p2 : Bool) : Option (Int × Sviewchange) :=
  Let (p0.v) fun x1 =>
  Bd (F162 x1 p1) fun y2 =>
  Let (!y2) fun x3 =>
  Br x3 (
  (F244_j0 p0 p1 p2 true)) (
  Gd (0 ≤ p1 ∧ p1 < 8) (
  Let ((vat p0.v.Admins p1)) fun x6 =>
  Let (decide (x6 = p2)) fun x7 =>
  (F244_j0 p0 p1 p2 x7)))

def F163_j1 (p0 : Sviewchange) (p1 : SOp) (j11_28 : Bool) : Option (Int × Sviewchange) :=
  Br j11_28 (
  some (7, p0)) (
  Let (p1.K) fun x3_28_12 =>
  Let ({ p0 with v := { p0.v with K := x3_28_12 } }) fun c4_28_12 =>
  some (0, c4_28_12))

def F163_j0 (p1 : SOp) (p0 : Sviewchange) (j27 : Bool) : Option (Int × Sviewchange) :=
  Br j27 (
  Let (p1.Who) fun x1_28 =>
  Let (p1.Kind) fun x2_28 =>
  Let (decide (x2_28 = 3)) fun x3_28 =>
  Bd (F244 p0 x1_28 x3_28) fun y4_28 =>
  some (y4_28.1, y4_28.2)) (
  Let (p1.K) fun x5_28 =>
  Let (decide (x5_28 < 1)) fun x6_28 =>
  Br x6_28 (
  (F163_j1 p0 p1 true)) (
  Let (p1.K) fun x8_28 =>
  Let (decide (8 < x8_28)) fun x9_28 =>
  (F163_j1 p0 p1 x9_28)))

def F163 (p0 : Sviewchange) (p1 : SOp) : Option (Int × Sviewchange) :=
  Let (p1.Kind) fun x2 =>
  Let (decide (x2 = 1)) fun x17 =>
  Br x17 (
  Let (p1.Leaf) fun x18 =>
  Bd (F242 p0 x18) fun y19 =>
  some (y19.1, y19.2)) (
  Let (decide (x2 = 2)) fun x20 =>
  Br x20 (
  Let (p1.Who) fun x21 =>
  Bd (F243 p0 x21) fun y22 =>
  some (y22.1, y22.2)) (
  Let (decide (x2 = 3)) fun x23 =>
  Br x23 (
  (F163_j0 p1 p0 true)) (
  Let (decide (x2 = 4)) fun x25 =>
  (F163_j0 p1 p0 x25))))

def F159_j0 (j14 : SOp) : Option (Bool) :=
  Let ({ j14 with Kind := 0 }) fun c1_15 =>
  Let (decide (c1_15 = SOp.zero)) fun x2_15 =>
  some (x2_15)

def F159_j1 (p0 : SOp) (x2 : Int) (j12 : Bool) : Option (Bool) :=
  Br j12 (
  Let ({ p0 with Who := 0 }) fun c1_13 =>
  (F159_j0 c1_13)) (
  Let (decide (x2 = 5)) fun x3_13 =>
  Br x3_13 (
  Let ({ p0 with K := 0 }) fun c4_13 =>
  (F159_j0 c4_13)) (
  some (false)))

def F159 (p0 : SOp) : Option (Bool) :=
  Let (p0.Kind) fun x2 =>
  Let (decide (x2 = 1)) fun x3 =>
  Br x3 (
  Let ({ p0 with Leaf := SLeaf.zero }) fun c4 =>
  (F159_j0 c4)) (
  Let (decide (x2 = 2)) fun x6 =>
  Br x6 (
  (F159_j1 p0 x2 true)) (
  Let (decide (x2 = 3)) fun x8 =>
  Br x8 (
  (F159_j1 p0 x2 true)) (
  Let (decide (x2 = 4)) fun x10 =>
  (F159_j1 p0 x2 x10))))

def F158 (p0 : SOp) : Option (Bool) :=
  Bd (F159 p0) fun y2 =>
  Let (!y2) fun x3 =>
  some (x3)

def F241_158_l0 (x1 : Int) (p0 : (List SOp)) : Nat → Int → Option (Int)
  | 0, _ => none
  | k + 1, j35 =>
  Let (decide (j35 < x1)) fun x36 =>
  Br x36 (
  Gd ((0 : Int) ≤ j35 ∧ j35 < (p0.length : Int)) (
  Let ((lat p0 j35)) fun x49 =>
  Bd (F158 x49) fun y50 =>
  Br y50 (
  some (j35)) (
  Let (iadd .i64 j35 1) fun x51 =>
  ((F241_158_l0 x1 p0 k) x51)))) (
  some ((-1)))

def F241_158 (p0 : (List SOp)) : Option (Int) :=
  Let ((p0.length : Int)) fun x1 =>
  (F241_158_l0 x1 p0 FUEL 0)

def F161_158 (p0 : (List SOp)) : Option (Bool) :=
  Bd (F241_158 p0) fun y1 =>
  Let (decide (0 ≤ y1)) fun x2 =>
  some (x2)

def F88_l0 (x11_24 : Int) (p2 : (List SOp)) : Nat → Int → Sviewchange → Option (SView × (Vector Bool 8) × (Vector Bool 8) × Int)
  | 0, _, _ => none
  | k + 1, j150_24, j151_24 =>
  Let (decide (j150_24 < x11_24)) fun x152_24 =>
  Br x152_24 (
  Gd ((0 : Int) ≤ j150_24 ∧ j150_24 < (p2.length : Int)) (
  Let ((lat p2 j150_24)) fun x170_24 =>
  Bd (F163 j151_24 x170_24) fun y172_24 =>
  Let (decide (y172_24.1 ≠ 0)) fun x173_24 =>
  Br x173_24 (
  Let (SView.zero) fun x174_24 =>
  Let ((Vector.replicate 8 false)) fun x175_24 =>
  Let ((Vector.replicate 8 false)) fun x176_24 =>
  some (x174_24, x175_24, x176_24, y172_24.1)) (
  Let (iadd .i64 j150_24 1) fun x177_24 =>
  ((F88_l0 x11_24 p2 k) x177_24 y172_24.2)))) (
  Let (j151_24.v) fun x178_24 =>
  Let (j151_24.v.K) fun x179_24 =>
  Bd (F164 x178_24) fun y180_24 =>
  Let (decide (y180_24 < x179_24)) fun x181_24 =>
  Br x181_24 (
  Let (SView.zero) fun x187_24 =>
  Let ((Vector.replicate 8 false)) fun x188_24 =>
  Let ((Vector.replicate 8 false)) fun x189_24 =>
  some (x187_24, x188_24, x189_24, 7)) (
  Let (j151_24.v) fun x190_24 =>
  Let (j151_24.added) fun x191_24 =>
  Let (j151_24.gone) fun x192_24 =>
  some (x190_24, x191_24, x192_24, 0)))

def F88_j0 (p0 : SView) (p1 : Int) (p2 : (List SOp)) (j23 : Bool) : Option (SView × (Vector Bool 8) × (Vector Bool 8) × Int) :=
  Br j23 (
  Let (SView.zero) fun x1_24 =>
  Let ((Vector.replicate 8 false)) fun x2_24 =>
  Let ((Vector.replicate 8 false)) fun x3_24 =>
  some (x1_24, x2_24, x3_24, 1)) (
  Bd (F162 p0 p1) fun y4_24 =>
  Let (!y4_24) fun x5_24 =>
  Br x5_24 (
  Let (SView.zero) fun x6_24 =>
  Let ((Vector.replicate 8 false)) fun x7_24 =>
  Let ((Vector.replicate 8 false)) fun x8_24 =>
  some (x6_24, x7_24, x8_24, 6)) (
  Let ({ { Sviewchange.zero with v := p0 } with from' := p1 }) fun x9_24 =>
  Let ((p2.length : Int)) fun x11_24 =>
  (F88_l0 x11_24 p2 FUEL 0 x9_24)))

def F88 (p0 : SView) (p1 : Int) (p2 : (List SOp)) : Option (SView × (Vector Bool 8) × (Vector Bool 8) × Int) :=
  Bd (F160 p0) fun y15 =>
  Let (!y15) fun x16 =>
  Br x16 (
  (F88_j0 p0 p1 p2 true)) (
  Let ((p2.length : Int)) fun x18 =>
  Let (decide (4 < x18)) fun x19 =>
  Br x19 (
  (F88_j0 p0 p1 p2 true)) (
  Bd (F161_158 p2) fun y21 =>
  (F88_j0 p0 p1 p2 y21)))

def F169_l0 (x4 : Int) (p0 : Int) : Nat → (List Int) → Int → Option ((List Int))
  | 0, _, _ => none
  | k + 1, j51, j52 =>
  Let (decide (j52 < x4)) fun x53 =>
  Br x53 (
  Let (isub .i64 7 j52) fun x65 =>
  Let (imul .i64 8 x65) fun x66 =>
  Gd (0 ≤ x66) (
  Let (ishr .i64 p0 x66) fun x68 =>
  Let (icon .u8 x68) fun x69 =>
  Gd ((0 : Int) ≤ j52 ∧ j52 < (j51.length : Int)) (
  Let ((lup j51 j52 x69)) fun l72 =>
  Let (iadd .i64 j52 1) fun x73 =>
  ((F169_l0 x4 p0 k) l72 x73)))) (
  some (j51))

def F169 (p0 : Int) : Option ((List Int)) :=
  Gd ((0 : Int) ≤ 8 ∧ (8 : Int) ≤ (LIM : Int)) (
  Let ((List.replicate (8 : Int).toNat (0 : Int))) fun l3 =>
  Let ((l3.length : Int)) fun x4 =>
  (F169_l0 x4 p0 FUEL l3 0))

def F250_l1 (x215 : (Vector Int 15)) : Nat → (List (List Int)) → Int → Option ((Vector Int 32))
  | 0, _, _ => none
  | k + 1, j341, j343 =>
  Let (decide (j343 < 15)) fun x344 =>
  Br x344 (
  Gd (0 ≤ j343 ∧ j343 < 15) (
  Let ((vat x215 j343)) fun x358 =>
  Bd (F169 x358) fun y359 =>
  Let ((j341 ++ ([y359] : (List (List Int))))) fun l362 =>
  Gd (l362.length ≤ LIM) (
  Let (iadd .i64 j343 1) fun x366 =>
  ((F250_l1 x215 k) l362 x366)))) (
  Bd (F83 (Vector.replicate 32 (0 : Int)) (⟨#[116, 114, 101, 101]⟩ : ByteArray) j341) fun y367 =>
  some (y367))

def F250_l0 (x3 : (Vector SLeaf 8)) (p0 : STree) : Nat → (List (List Int)) → Int → Option ((Vector Int 32))
  | 0, _, _ => none
  | k + 1, j179, j181 =>
  Let (decide (j181 < 8)) fun x182 =>
  Br x182 (
  Gd (0 ≤ j181 ∧ j181 < 8) (
  Let ((vat x3 j181)) fun x201 =>
  Let (x201.Sign) fun x203 =>
  Let (x201.Seal) fun x204 =>
  Bd (F169 x203) fun y205 =>
  Bd (F169 x204) fun y207 =>
  Let ((j179 ++ ([y205, y207] : (List (List Int))))) fun l210 =>
  Gd (l210.length ≤ LIM) (
  Let (iadd .i64 j181 1) fun x214 =>
  ((F250_l0 x3 p0 k) l210 x214)))) (
  Let (p0.Nodes) fun x215 =>
  (F250_l1 x215 FUEL j179 0))

def F250 (p0 : STree) : Option ((Vector Int 32)) :=
  Let (p0.Leaves) fun x3 =>
  (F250_l0 x3 p0 FUEL [] 0)

def F171_j0 (j86 : (List Int)) (j87 : Int) (rec0 : (List Int) → Int → Option ((Vector Int 32))) (j101 : Int) : Option ((Vector Int 32)) :=
  Let ((j86 ++ ([j101] : (List Int)))) fun l2_102 =>
  Gd (l2_102.length ≤ LIM) (
  Let (iadd .i64 j87 1) fun x5_102 =>
  (rec0 l2_102 x5_102))

def F171_l0 (x3 : (Vector Bool 8)) (p0 : SView) : Nat → (List Int) → Int → Option ((Vector Int 32))
  | 0, _, _ => none
  | k + 1, j86, j87 =>
  Let (decide (j87 < 8)) fun x88 =>
  Br x88 (
  Gd (0 ≤ j87 ∧ j87 < 8) (
  Let ((vat x3 j87)) fun x98 =>
  Br x98 (
  (F171_j0 j86 j87 (F171_l0 x3 p0 k) 1)) (
  (F171_j0 j86 j87 (F171_l0 x3 p0 k) 0)))) (
  Let (p0.Tree) fun x103 =>
  Bd (F250 x103) fun y104 =>
  Let (p0.Chain) fun x106 =>
  Let (p0.Epoch) fun x107 =>
  Let (p0.K) fun x108 =>
  Bd (F169 x107) fun y109 =>
  Bd (F169 x108) fun y111 =>
  Bd (F83 x106 (⟨#[118, 105, 101, 119]⟩ : ByteArray) ([y109, y111, j86, y104.toList] : (List (List Int)))) fun y114 =>
  some (y114))

def F171 (p0 : SView) : Option ((Vector Int 32)) :=
  Let (p0.Admins) fun x3 =>
  (F171_l0 x3 p0 FUEL [] 0)

def F237_l1 (x438 : Int) (x432 : Int) (x433 : Int) (x434 : Int) (x435 : Int) (x436 : Int) (j341 : Int) (rec0 : (List Int) → Int → Option ((List Int))) : Nat → (List Int) → Int → Option ((List Int))
  | 0, _, _ => none
  | k + 1, j485, j486 =>
  Let (decide (j486 < x438)) fun x487 =>
  Br x487 (
  Gd ((0 : Int) ≤ j486 ∧ j486 < (([x432, x433, x434, x435, x436] : (List Int)).length : Int)) (
  Let ((lat ([x432, x433, x434, x435, x436] : (List Int)) j486)) fun x501 =>
  Bd (F169 x501) fun y502 =>
  Let ((j485 ++ y502)) fun l504 =>
  Gd (l504.length ≤ LIM) (
  Let (iadd .i64 j486 1) fun x507 =>
  ((F237_l1 x438 x432 x433 x434 x435 x436 j341 rec0 k) l504 x507)))) (
  Let (iadd .i64 j341 1) fun x508 =>
  (rec0 j485 x508))

def F237_l0 (x1 : Int) (p0 : (List SOp)) : Nat → (List Int) → Int → Option ((List Int))
  | 0, _, _ => none
  | k + 1, j340, j341 =>
  Let (decide (j341 < x1)) fun x342 =>
  Br x342 (
  Gd ((0 : Int) ≤ j341 ∧ j341 < (p0.length : Int)) (
  Let ((lat p0 j341)) fun x430 =>
  Let (x430.Kind) fun x432 =>
  Let (x430.Who) fun x433 =>
  Let (x430.K) fun x434 =>
  Let (x430.Leaf.Sign) fun x435 =>
  Let (x430.Leaf.Seal) fun x436 =>
  Let ((([x432, x433, x434, x435, x436] : (List Int)).length : Int)) fun x438 =>
  (F237_l1 x438 x432 x433 x434 x435 x436 j341 (F237_l0 x1 p0 k) FUEL j340 0))) (
  some (j340))

def F237 (p0 : (List SOp)) : Option ((List Int)) :=
  Let ((p0.length : Int)) fun x1 =>
  (F237_l0 x1 p0 FUEL [] 0)

def F155 (p0 : SView) (p1 : Int) (p2 : (List SOp)) : Option ((Vector Int 32)) :=
  Bd (F171 p0) fun y3 =>
  Bd (F169 p1) fun y4 =>
  Bd (F237 p2) fun y6 =>
  Bd (F83 y3 (⟨#[118, 111, 116, 101]⟩ : ByteArray) ([y4, y6] : (List (List Int)))) fun y9 =>
  some (y9)

def F156 (p0 : SView) (p1 : Int) : Option (Bool) :=
  Let (decide (0 ≤ p1)) fun x2 =>
  Br x2 (
  Let (decide (p1 < 8)) fun x3 =>
  Br x3 (
  Gd (0 ≤ p1 ∧ p1 < 8) (
  Let ((vat p0.Admins p1)) fun x5 =>
  some (x5))) (
  some (false))) (
  some (false))

def F238 (p0 : Int) : Option (Bool) :=
  Let (decide (0 ≤ p0)) fun x1 =>
  Br x1 (
  Let (decide (p0 < 1073741789)) fun x2 =>
  some (x2)) (
  some (false))

def F174 (p0 : Int) : Option ((List Int)) :=
  Let (ishr .i64 p0 24) fun x1 =>
  Let (icon .u8 x1) fun x2 =>
  Let (ishr .i64 p0 16) fun x3 =>
  Let (icon .u8 x3) fun x4 =>
  Let (ishr .i64 p0 8) fun x5 =>
  Let (icon .u8 x5) fun x6 =>
  Let (icon .u8 p0) fun x7 =>
  some (([x2, x4, x6, x7] : (List Int)))

def F252 (p0 : (Vector Int 32)) : Option (Int) :=
  Bd (F251 p0 1073741789) fun y2 =>
  some (y2)

def F175 (p0 : Int) (p1 : Int) (p2 : (List Int)) : Option (Int) :=
  Bd (F174 p0) fun y1 =>
  Bd (F174 p1) fun y3 =>
  Bd (F83 (Vector.replicate 32 (0 : Int)) (⟨#[115, 105, 103, 110]⟩ : ByteArray) ([y1, y3, p2] : (List (List Int)))) fun y6 =>
  Bd (F252 y6) fun y7 =>
  some (y7)

def F157_j0 (p2 : SSig) (p0 : Int) (p1 : (List Int)) (j13 : Bool) : Option (Bool) :=
  Br j13 (
  some (false)) (
  Let (p2.S) fun x3_14 =>
  Let (p2.E) fun x4_14 =>
  Let (isub .i64 1073741789 x4_14) fun x5_14 =>
  Bd (F176 4 x3_14) fun y6_14 =>
  Bd (F176 p0 x5_14) fun y7_14 =>
  Bd (F239 y6_14 y7_14) fun y8_14 =>
  Let (p2.E) fun x9_14 =>
  Bd (F175 y8_14 p0 p1) fun y10_14 =>
  Let (decide (x9_14 = y10_14)) fun x11_14 =>
  some (x11_14))

def F157 (p0 : Int) (p1 : (List Int)) (p2 : SSig) : Option (Bool) :=
  Bd (F201 p0) fun y2 =>
  Let (!y2) fun x3 =>
  Br x3 (
  (F157_j0 p2 p0 p1 true)) (
  Let (p2.E) fun x5 =>
  Bd (F238 x5) fun y6 =>
  Let (!y6) fun x7 =>
  Br x7 (
  (F157_j0 p2 p0 p1 true)) (
  Let (p2.S) fun x9 =>
  Bd (F238 x9) fun y10 =>
  Let (!y10) fun x11 =>
  (F157_j0 p2 p0 p1 x11)))

def F87_j1 (x300_9 : SVote) (p0 : SView) (y14_9 : ((Vector Int 32))) (j270_9 : Int) (rec0 : Int → Int → Option (Int)) (j318_9 : Bool) : Option (Int) :=
  Br j318_9 (
  some (6)) (
  Let (x300_9.Admin) fun x1_9_319 =>
  Gd (0 ≤ x1_9_319 ∧ x1_9_319 < 8) (
  Let ((vat p0.Tree.Leaves x1_9_319).Sign) fun x3_9_319 =>
  Let (x300_9.Sig) fun x4_9_319 =>
  Bd (F157 x3_9_319 y14_9.toList x4_9_319) fun y5_9_319 =>
  Let (!y5_9_319) fun x6_9_319 =>
  Br x6_9_319 (
  some (4)) (
  Let (x300_9.Admin) fun x7_9_319 =>
  Let (iadd .i64 j270_9 1) fun x8_9_319 =>
  (rec0 x7_9_319 x8_9_319))))

def F87_l0 (x16_9 : Int) (p3 : (List SVote)) (p0 : SView) (y14_9 : ((Vector Int 32))) : Nat → Int → Int → Option (Int)
  | 0, _, _ => none
  | k + 1, j269_9, j270_9 =>
  Let (decide (j270_9 < x16_9)) fun x271_9 =>
  Br x271_9 (
  Gd ((0 : Int) ≤ j270_9 ∧ j270_9 < (p3.length : Int)) (
  Let ((lat p3 j270_9)) fun x300_9 =>
  Let (x300_9.Admin) fun x311_9 =>
  Bd (F156 p0 x311_9) fun y312_9 =>
  Let (!y312_9) fun x313_9 =>
  Br x313_9 (
  (F87_j1 x300_9 p0 y14_9 j270_9 (F87_l0 x16_9 p3 p0 y14_9 k) true)) (
  Let (x300_9.Admin) fun x315_9 =>
  Let (decide (x315_9 ≤ j269_9)) fun x316_9 =>
  (F87_j1 x300_9 p0 y14_9 j270_9 (F87_l0 x16_9 p3 p0 y14_9 k) x316_9)))) (
  Let ((p3.length : Int)) fun x320_9 =>
  Let (p0.K) fun x321_9 =>
  Let (decide (x320_9 < x321_9)) fun x322_9 =>
  Br x322_9 (
  some (8)) (
  some (0)))

def F87_j0 (p2 : (List SOp)) (p0 : SView) (p1 : Int) (p3 : (List SVote)) (j8 : Bool) : Option (Int) :=
  Br j8 (
  some (8)) (
  Let ((p2.length : Int)) fun x3_9 =>
  Let (decide (x3_9 = 0)) fun x4_9 =>
  Br x4_9 (
  some (0)) (
  Bd (F88 p0 p1 p2) fun y7_9 =>
  Let (decide (y7_9.2.2.2 ≠ 0)) fun x11_9 =>
  Br x11_9 (
  some (y7_9.2.2.2)) (
  Bd (F155 p0 p1 p2) fun y14_9 =>
  Let ((p3.length : Int)) fun x16_9 =>
  (F87_l0 x16_9 p3 p0 y14_9 FUEL (-1) 0))))

def F87 (p0 : SView) (p1 : Int) (p2 : (List SOp)) (p3 : (List SVote)) : Option (Int) :=
  Let ((p2.length : Int)) fun x2 =>
  Let (decide (x2 = 0)) fun x3 =>
  Br x3 (
  Let ((p3.length : Int)) fun x4 =>
  Let (decide (0 < x4)) fun x5 =>
  (F87_j0 p2 p0 p1 p3 x5)) (
  (F87_j0 p2 p0 p1 p3 false))

def F45 (p0 : (Option SpartyParty)) : Option ((Option SpartyParty)) :=
  Mo p0 (
  some (none)) fun x1 => (
  some ((some (⟨x1.v, x1.leaf, x1.signer, x1.own, x1.has', x1.nodes, x1.epoch, x1.init'⟩ : SpartyParty))))

def F206 (p0 : (Vector Int 32)) : Option ((Vector Int 32)) :=
  Bd (F83 p0 (⟨#[112, 97, 116, 104]⟩ : ByteArray) []) fun y3 =>
  some (y3)

def F165_l0 : Nat → Int → (Vector (Vector Int 32) 3) → (Vector Int 32) → Option ((Vector (Vector Int 32) 3) × (Vector Int 32))
  | 0, _, _, _ => none
  | k + 1, j66, j67, j68 =>
  Let (decide (j66 < 3)) fun x69 =>
  Br x69 (
  Bd (F206 j68) fun y76 =>
  Gd (0 ≤ j66 ∧ j66 < 3) (
  Let ((vup j67 j66 y76)) fun c78 =>
  Let (iadd .i64 j66 1) fun x79 =>
  ((F165_l0 k) x79 c78 y76))) (
  Bd (F206 j68) fun y80 =>
  some (j67, y80))

def F165 (p0 : (Vector Int 32)) : Option ((Vector (Vector Int 32) 3) × (Vector Int 32)) :=
  (F165_l0 FUEL 0 (Vector.replicate 3 (Vector.replicate 32 (0 : Int))) p0)

def F89_l0 (x12 : (Vector (Vector Int 32) 3)) (y4 : ((Vector (Vector Int 32) 3) × (Vector Int 32))) (p0 : SpartyParty) (y3 : ((Vector Int 32))) (x8 : (Vector Bool 3)) (x7 : (Vector (Vector Int 32) 3)) (p2 : SCommit) (y11 : (Int)) : Nat → Int → (Vector Int 3) → Option ((Vector Int 32) × SpartyParty × SCommit)
  | 0, _, _ => none
  | k + 1, j53, j54 =>
  Let (decide (j53 < 3)) fun x55 =>
  Br x55 (
  Gd (0 ≤ j53 ∧ j53 < 3) (
  Let ((vat x12 j53)) fun x68 =>
  Bd (F129 x68) fun y70 =>
  Bd (F114 y70) fun y72 =>
  Gd (0 ≤ j53 ∧ j53 < 3) (
  Let ((vup j54 j53 y72)) fun c74 =>
  Let (iadd .i64 j53 1) fun x75 =>
  ((F89_l0 x12 y4 p0 y3 x8 x7 p2 y11 k) x75 c74)))) (
  Let (y4.2) fun x76 =>
  some (x76, (⟨p0.v, p0.leaf, p0.signer, y3, x8, x7, p0.epoch, p0.init'⟩ : SpartyParty), (⟨p2.Epoch, p2.From, p2.Ops, p2.Votes, y11, j54, p2.Boxes, p2.Tag, p2.Sig⟩ : SCommit)))

def F89 (p0 : SpartyParty) (p1 : (Vector Int 32)) (p2 : SCommit) : Option ((Vector Int 32) × SpartyParty × SCommit) :=
  Bd (F83 p1 (⟨#[108, 101, 97, 102]⟩ : ByteArray) []) fun y3 =>
  Bd (F165 y3) fun y4 =>
  Let (y4.1) fun x7 =>
  Let ((vup (vup (vup (Vector.replicate 3 false) (0 : Int) true) (1 : Int) true) (2 : Int) true)) fun x8 =>
  Bd (F129 y3) fun y9 =>
  Bd (F114 y9) fun y11 =>
  Let (y4.1) fun x12 =>
  (F89_l0 x12 y4 p0 y3 x8 x7 p2 y11 FUEL 0 p2.Path)

def F90_l0 (y12 : ((Vector Int 3))) (p1 : SCommit) : Nat → Int → SView → Option (SView)
  | 0, _, _ => none
  | k + 1, j45, j46 =>
  Let (decide (j45 < 3)) fun x47 =>
  Br x47 (
  Gd (0 ≤ j45 ∧ j45 < 3) (
  Let ((vat y12 j45)) fun x58 =>
  Gd (0 ≤ j45 ∧ j45 < 3) (
  Let ((vat p1.Path j45)) fun x60 =>
  Gd (0 ≤ x58 ∧ x58 < 15) (
  Let ({ j46 with Tree := { j46.Tree with Nodes := (vup j46.Tree.Nodes x58 x60) } }) fun c62 =>
  Let (iadd .i64 j45 1) fun x63 =>
  ((F90_l0 y12 p1 k) x63 c62))))) (
  some (j46))

def F90 (p0 : SView) (p1 : SCommit) : Option (SView) :=
  Let (p0.Epoch) fun x4 =>
  Let (iadd .i64 x4 1) fun x5 =>
  Let ({ p0 with Epoch := x5 }) fun c6 =>
  Let (p1.From) fun x7 =>
  Let (p1.Seal) fun x8 =>
  Gd (0 ≤ x7 ∧ x7 < 8) (
  Let ({ c6 with Tree := { c6.Tree with Leaves := (vup c6.Tree.Leaves x7 ({ (vat c6.Tree.Leaves x7) with Seal := x8 })) } }) fun c10 =>
  Let (p1.From) fun x11 =>
  Bd (F166 x11) fun y12 =>
  (F90_l0 y12 p1 FUEL 0 c10))

def F202_j0 (j31 : Int) (rec0 : Int → (Vector Int 3) → Option ((Vector Int 3))) (j45 : (Vector Int 3)) : Option ((Vector Int 3)) :=
  Let (iadd .i64 j31 1) fun x1_46 =>
  (rec0 x1_46 j45)

def F202_l0 (p0 : Int) : Nat → Int → (Vector Int 3) → Option ((Vector Int 3))
  | 0, _, _ => none
  | k + 1, j31, j32 =>
  Let (decide (j31 < 3)) fun x33 =>
  Br x33 (
  Bd (F245 p0) fun y36 =>
  Br y36 (
  Gd (0 ≤ j31) (
  Let (ishl .i64 1 j31) fun x38 =>
  Let (ixor .i64 p0 x38) fun x39 =>
  Bd (F246 x39 j31) fun y40 =>
  Gd (0 ≤ j31 ∧ j31 < 3) (
  Let ((vup j32 j31 y40)) fun c42 =>
  (F202_j0 j31 (F202_l0 p0 k) c42)))) (
  (F202_j0 j31 (F202_l0 p0 k) j32))) (
  some (j32))

def F202 (p0 : Int) : Option ((Vector Int 3)) :=
  (F202_l0 p0 FUEL 0 (Vector.replicate 3 (0 : Int)))

def F248 (p0 : Int) : Option (Bool) :=
  Let (decide (0 ≤ p0)) fun x1 =>
  Br x1 (
  Let (decide (p0 < 15)) fun x2 =>
  some (x2)) (
  some (false))

def F168 (p0 : STree) (p1 : Int) : Option (Int) :=
  Bd (F248 p1) fun y12 =>
  Let (!y12) fun x13 =>
  Br x13 (
  some (0)) (
  Let (irem p1 2) fun x14 =>
  Let (decide (x14 = 0)) fun x15 =>
  Br x15 (
  Let (iquo .i64 p1 2) fun x16 =>
  Gd (0 ≤ x16 ∧ x16 < 8) (
  Let ((vat p0.Leaves x16).Seal) fun x18 =>
  some (x18))) (
  Gd (0 ≤ p1 ∧ p1 < 15) (
  Let ((vat p0.Nodes p1)) fun x20 =>
  some (x20))))

def F266_l0 (p0 : Int) : Nat → Int → Int → Option (Int)
  | 0, _, _ => none
  | k + 1, j15, j16 =>
  Let (iand .i64 p0 j16) fun x17 =>
  Let (decide (x17 ≠ 0)) fun x18 =>
  Br x18 (
  Let (ishl .i64 j16 1) fun x22 =>
  ((F266_l0 p0 k) j16 x22)) (
  some (j15))

def F266 (p0 : Int) : Option (Int) :=
  (F266_l0 p0 FUEL 0 1)

def F203_r : Nat → STree → Int → Option ((List Int))
  | 0, _, _ => none
  | k + 1, p0, p1 =>
  Bd (F248 p1) fun y13 =>
  Let (!y13) fun x14 =>
  Br x14 (
  some ([])) (
  Bd (F168 p0 p1) fun y15 =>
  Let (decide (y15 ≠ 0)) fun x16 =>
  Br x16 (
  some (([p1] : (List Int)))) (
  Bd (F266 p1) fun y18 =>
  Let (decide (y18 = 0)) fun x19 =>
  Br x19 (
  some ([])) (
  Bd (F266 p1) fun y20 =>
  Let (isub .i64 p1 y20) fun x21 =>
  Bd ((F203_r k) p0 x21) fun y22 =>
  Bd (F266 p1) fun y24 =>
  Let (iadd .i64 p1 y24) fun x25 =>
  Bd ((F203_r k) p0 x25) fun y26 =>
  Let ((y22 ++ y26)) fun l28 =>
  Gd (l28.length ≤ LIM) (
  some (l28)))))

def F203 (p0 : STree) (p1 : Int) : Option ((List Int)) := F203_r FUEL p0 p1

def F118_j1 (j410_8 : Int) (rec1 : (List (Vector Int 2)) → Int → Option ((List (Vector Int 2)))) (j428_8 : (List (Vector Int 2))) : Option ((List (Vector Int 2))) :=
  Let (iadd .i64 j410_8 1) fun x1_8_429 =>
  (rec1 j428_8 x1_8_429)

def F118_j2 (j289_8 : Int) (x416_8 : Int) (j409_8 : (List (Vector Int 2))) (j410_8 : Int) (rec1 : (List (Vector Int 2)) → Int → Option ((List (Vector Int 2)))) (j425_8 : Bool) : Option ((List (Vector Int 2))) :=
  Br j425_8 (
  Let ((vup (vup (Vector.replicate 2 (0 : Int)) (0 : Int) j289_8) (1 : Int) x416_8)) fun x1_8_426 =>
  Let ((j409_8 ++ ([x1_8_426] : (List (Vector Int 2))))) fun l3_8_426 =>
  Gd (l3_8_426.length ≤ LIM) (
  (F118_j1 j410_8 rec1 l3_8_426))) (
  (F118_j1 j410_8 rec1 j409_8))

def F118_l1 (x366_8 : Int) (y364_8 : ((List Int))) (j289_8 : Int) (p2 : (Vector Bool 8)) (rec0 : (List (Vector Int 2)) → Int → Option ((List (Vector Int 2)))) : Nat → (List (Vector Int 2)) → Int → Option ((List (Vector Int 2)))
  | 0, _, _ => none
  | k + 1, j409_8, j410_8 =>
  Let (decide (j410_8 < x366_8)) fun x411_8 =>
  Br x411_8 (
  Gd ((0 : Int) ≤ j410_8 ∧ j410_8 < (y364_8.length : Int)) (
  Let ((lat y364_8 j410_8)) fun x416_8 =>
  Let (irem x416_8 2) fun x417_8 =>
  Let (decide (x417_8 ≠ 0)) fun x418_8 =>
  Br x418_8 (
  (F118_j2 j289_8 x416_8 j409_8 j410_8 (F118_l1 x366_8 y364_8 j289_8 p2 rec0 k) true)) (
  Let (iquo .i64 x416_8 2) fun x420_8 =>
  Gd (0 ≤ x420_8 ∧ x420_8 < 8) (
  Let ((vat p2 x420_8)) fun x422_8 =>
  Let (!x422_8) fun x423_8 =>
  (F118_j2 j289_8 x416_8 j409_8 j410_8 (F118_l1 x366_8 y364_8 j289_8 p2 rec0 k) x423_8))))) (
  Let (iadd .i64 j289_8 1) fun x430_8 =>
  (rec0 j409_8 x430_8))

def F118_l0 (y3_8 : ((Vector Int 3))) (p0 : STree) (p2 : (Vector Bool 8)) : Nat → (List (Vector Int 2)) → Int → Option ((List (Vector Int 2)))
  | 0, _, _ => none
  | k + 1, j288_8, j289_8 =>
  Let (decide (j289_8 < 3)) fun x290_8 =>
  Br x290_8 (
  Gd (0 ≤ j289_8 ∧ j289_8 < 3) (
  Let ((vat y3_8 j289_8)) fun x363_8 =>
  Bd (F203 p0 x363_8) fun y364_8 =>
  Let ((y364_8.length : Int)) fun x366_8 =>
  (F118_l1 x366_8 y364_8 j289_8 p2 (F118_l0 y3_8 p0 p2 k) FUEL j288_8 0))) (
  some (j288_8))

def F118_j0 (p1 : Int) (p0 : STree) (p2 : (Vector Bool 8)) (j7 : Bool) : Option ((List (Vector Int 2))) :=
  Br j7 (
  some ([])) (
  Bd (F202 p1) fun y3_8 =>
  (F118_l0 y3_8 p0 p2 FUEL [] 0))

def F118 (p0 : STree) (p1 : Int) (p2 : (Vector Bool 8)) : Option ((List (Vector Int 2))) :=
  Let (decide (p1 < 0)) fun x3 =>
  Br x3 (
  (F118_j0 p1 p0 p2 true)) (
  Let (decide (8 ≤ p1)) fun x5 =>
  (F118_j0 p1 p0 p2 x5))

def F210_j0 (p0 : (Option Int)) (p1 : Int) (j9 : Bool) : Option ((Vector Int 32) × Bool) :=
  Br j9 (
  some ((Vector.replicate 32 (0 : Int)), false)) (
  Mo p0 (
  Gd (False) (
  none)) fun x3_10 => (
  Bd (F176 p1 x3_10) fun y6_10 =>
  Bd (F174 y6_10) fun y7_10 =>
  Bd (F83 (Vector.replicate 32 (0 : Int)) (⟨#[115, 104, 97, 114, 101]⟩ : ByteArray) ([y7_10] : (List (List Int)))) fun y10_10 =>
  some (y10_10, true)))

def F210 (p0 : (Option Int)) (p1 : Int) : Option ((Vector Int 32) × Bool) :=
  Mo p0 (
  (F210_j0 p0 p1 true)) fun x2 => (
  Bd (F201 p1) fun y6 =>
  Let (!y6) fun x7 =>
  (F210_j0 p0 p1 x7))

def F267 (p0 : (List Int)) : Option ((List Int)) :=
  Let ((([] : (List Int)) ++ p0)) fun l5 =>
  Gd (l5.length ≤ LIM) (
  some (l5))

def F214_l1 (x550 : Int) (j427 : Int) (y1_539 : ((Vector Int 32))) (rec0 : (List Int) → Int → Option ((List Int))) : Nat → (List Int) → Int → Option ((List Int))
  | 0, _, _ => none
  | k + 1, j607, j608 =>
  Let (decide (j608 < x550)) fun x609 =>
  Br x609 (
  Let (imul .i64 j427 32) fun x624 =>
  Let (iadd .i64 x624 j608) fun x625 =>
  Gd ((0 : Int) ≤ x625 ∧ x625 < (j607.length : Int)) (
  Let ((lat j607 x625)) fun x628 =>
  Gd (0 ≤ j608 ∧ j608 < 32) (
  Let ((vat y1_539 j608)) fun x630 =>
  Let (ixor .u8 x628 x630) fun x631 =>
  Gd ((0 : Int) ≤ x625 ∧ x625 < (j607.length : Int)) (
  Let ((lup j607 x625 x631)) fun l634 =>
  Let (iadd .i64 j608 1) fun x635 =>
  ((F214_l1 x550 j427 y1_539 rec0 k) l634 x635))))) (
  Let (iadd .i64 j427 1) fun x636 =>
  (rec0 j607 x636))

def F214_l0 (p0 : (Vector Int 32)) : Nat → (List Int) → Int → Option ((List Int))
  | 0, _, _ => none
  | k + 1, j426, j427 =>
  Let (imul .i64 j427 32) fun x428 =>
  Let ((j426.length : Int)) fun x429 =>
  Let (decide (x428 < x429)) fun x430 =>
  Br x430 (
  Bd (F174 j427) fun y1_537 =>
  Bd (F83 p0 (⟨#[115, 116, 114, 101, 97, 109]⟩ : ByteArray) ([y1_537] : (List (List Int)))) fun y1_539 =>
  Let (imul .i64 j427 32) fun x544 =>
  Let (iadd .i64 j427 1) fun x545 =>
  Let (imul .i64 x545 32) fun x546 =>
  Let ((j426.length : Int)) fun x547 =>
  Let (imin x546 x547) fun x548 =>
  Gd (0 ≤ x544 ∧ x544 ≤ x548 ∧ x548 ≤ (j426.length : Int)) (
  Let (((cut j426 x544 x548).length : Int)) fun x550 =>
  (F214_l1 x550 j427 y1_539 (F214_l0 p0 k) FUEL j426 0))) (
  some (j426))

def F214 (p0 : (Vector Int 32)) (p1 : (List Int)) : Option ((List Int)) :=
  Bd (F267 p1) fun y2 =>
  (F214_l0 p0 FUEL y2 0)

def F213 (p0 : (Vector Int 32)) (p1 : (List Int)) (p2 : (List Int)) : Option ((List Int)) :=
  Bd (F83 p0 (⟨#[116, 97, 103]⟩ : ByteArray) ([p1, p2] : (List (List Int)))) fun y3 =>
  some ((cut y3.toList (0 : Int) (8 : Int)))

def F299 (p1 : Int) : Option (List Int) :=
  Gd (0 ≤ p1 ∧ p1 ≤ (LIM : Int)) (some [])

def F247_l1 (x163 : Int) (p0 : (List (List Int))) : Nat → (List Int) → Int → Option ((List Int))
  | 0, _, _ => none
  | k + 1, j218, j219 =>
  Let (decide (j219 < x163)) fun x220 =>
  Br x220 (
  Gd ((0 : Int) ≤ j219 ∧ j219 < (p0.length : Int)) (
  Let ((lat p0 j219)) fun y239 =>
  Let ((j218 ++ y239)) fun l241 =>
  Gd (l241.length ≤ LIM) (
  Let (iadd .i64 j219 1) fun x244 =>
  ((F247_l1 x163 p0 k) l241 x244)))) (
  some (j218))

def F247_l0 (x1 : Int) (p0 : (List (List Int))) : Nat → Int → Int → Option ((List Int))
  | 0, _, _ => none
  | k + 1, j134, j135 =>
  Let (decide (j135 < x1)) fun x136 =>
  Br x136 (
  Gd ((0 : Int) ≤ j135 ∧ j135 < (p0.length : Int)) (
  Let ((lat p0 j135)) fun y155 =>
  Let ((y155.length : Int)) fun x157 =>
  Let (iadd .i64 j134 x157) fun x158 =>
  Let (decide (x158 < 0)) fun x159 =>
  Br x159 (
  Gd (False) (
  none)) (
  Let (iadd .i64 j135 1) fun x160 =>
  ((F247_l0 x1 p0 k) x158 x160)))) (
  Bd (F299 j134) fun y161 =>
  Let ((p0.length : Int)) fun x163 =>
  (F247_l1 x163 p0 FUEL y161 0))

def F247 (p0 : (List (List Int))) : Option ((List Int)) :=
  Let ((p0.length : Int)) fun x1 =>
  (F247_l0 x1 p0 FUEL 0 0)

def F167_j0 (y4 : ((Vector Int 32) × Bool)) (y2 : ((Option Int))) (p2 : (List Int)) (j11 : Bool) : Option ((List Int) × Int) :=
  Br j11 (
  some ([], 1)) (
  Let (y4.1) fun x3_12 =>
  Bd (F114 y2) fun y4_12 =>
  Bd (F174 y4_12) fun y5_12 =>
  Bd (F214 x3_12 p2) fun y7_12 =>
  Let (y4.1) fun x9_12 =>
  Bd (F213 x9_12 y5_12 y7_12) fun y10_12 =>
  Bd (F247 ([y5_12, y10_12, y7_12] : (List (List Int)))) fun y13_12 =>
  some (y13_12, 0))

def F167 (p0 : Int) (p1 : (Vector Int 32)) (p2 : (List Int)) : Option ((List Int) × Int) :=
  Bd (F152 p1) fun y2 =>
  Bd (F210 y2 p0) fun y4 =>
  Let (!y4.2) fun x6 =>
  Br x6 (
  (F167_j0 y4 y2 p2 true)) (
  Let ((p2.length : Int)) fun x8 =>
  Let (decide (200 < x8)) fun x9 =>
  (F167_j0 y4 y2 p2 x9))

def F91_l0 (x11 : Int) (y9 : ((List (Vector Int 2)))) (p1 : SView) (p3 : (Vector Int 32)) (x5 : SpartyParty) : Nat → (List (List Int)) → Int → Option ((List (List Int)) × Int)
  | 0, _, _ => none
  | k + 1, j307, j309 =>
  Let (decide (j309 < x11)) fun x310 =>
  Br x310 (
  Gd ((0 : Int) ≤ j309 ∧ j309 < (y9.length : Int)) (
  Let ((lat y9 j309)) fun x342 =>
  Let (p1.Tree) fun x344 =>
  Let ((vat x342 (1 : Int))) fun x345 =>
  Let ((vat x342 (0 : Int))) fun x346 =>
  Gd (0 ≤ x346 ∧ x346 < 3) (
  Bd (F168 x344 x345) fun y350 =>
  Bd (F169 j309) fun y351 =>
  Bd (F83 p3 (⟨#[98, 111, 120]⟩ : ByteArray) ([y351] : (List (List Int)))) fun y354 =>
  Bd (F167 y350 y354 ((vat x5.nodes x346).toList)) fun y355 =>
  Let (decide (y355.2 ≠ 0)) fun x357 =>
  Br x357 (
  some ([], y355.2)) (
  Let ((j307 ++ ([y355.1] : (List (List Int))))) fun l361 =>
  Gd (l361.length ≤ LIM) (
  Let (iadd .i64 j309 1) fun x365 =>
  ((F91_l0 x11 y9 p1 p3 x5 k) l361 x365)))))) (
  some (j307, 0))

def F91 (p0 : (Option SpartyParty)) (p1 : SView) (p2 : (Vector Bool 8)) (p3 : (Vector Int 32)) : Option ((List (List Int)) × Int) :=
  Let (p1.Tree) fun x4 =>
  Mo p0 (
  Gd (False) (
  none)) fun x5 => (
  Let (x5.leaf) fun x8 =>
  Bd (F118 x4 x8 p2) fun y9 =>
  Let ((y9.length : Int)) fun x11 =>
  (F91_l0 x11 y9 p1 p3 x5 FUEL [] 0))

def F249_l0 (x1 : Int) (p0 : (List Int)) : Nat → (List Int) → Int → Option ((List Int))
  | 0, _, _ => none
  | k + 1, j52, j53 =>
  Let (decide (j53 < x1)) fun x54 =>
  Br x54 (
  Gd ((0 : Int) ≤ j53 ∧ j53 < (p0.length : Int)) (
  Let ((lat p0 j53)) fun x70 =>
  Bd (F169 x70) fun y71 =>
  Let ((j52 ++ y71)) fun l73 =>
  Gd (l73.length ≤ LIM) (
  Let (iadd .i64 j53 1) fun x76 =>
  ((F249_l0 x1 p0 k) l73 x76)))) (
  some (j52))

def F249 (p0 : (List Int)) : Option ((List Int)) :=
  Let ((p0.length : Int)) fun x1 =>
  (F249_l0 x1 p0 FUEL [] 0)

def F170_l1 (x247 : Int) (p0 : SCommit) : Nat → (List Int) → Int → Option ((List Int))
  | 0, _, _ => none
  | k + 1, j330, j331 =>
  Let (decide (j331 < x247)) fun x332 =>
  Br x332 (
  Gd ((0 : Int) ≤ j331 ∧ j331 < (p0.Boxes.length : Int)) (
  Let ((lat p0.Boxes j331)) fun y358 =>
  Let ((y358.length : Int)) fun x360 =>
  Bd (F249 ([x360] : (List Int))) fun y362 =>
  Let ((j330 ++ y362)) fun l364 =>
  Gd (l364.length ≤ LIM) (
  Let ((l364 ++ y358)) fun l367 =>
  Gd (l367.length ≤ LIM) (
  Let (iadd .i64 j331 1) fun x370 =>
  ((F170_l1 x247 p0 k) l367 x370))))) (
  some (j330))

def F170_l0 (x24 : Int) (p0 : SCommit) : Nat → (List Int) → Int → Option ((List Int))
  | 0, _, _ => none
  | k + 1, j201, j202 =>
  Let (decide (j202 < x24)) fun x203 =>
  Br x203 (
  Gd ((0 : Int) ≤ j202 ∧ j202 < (p0.Votes.length : Int)) (
  Let ((lat p0.Votes j202)) fun x224 =>
  Let (x224.Admin) fun x226 =>
  Let (x224.Sig.E) fun x227 =>
  Let (x224.Sig.S) fun x228 =>
  Bd (F249 ([x226, x227, x228] : (List Int))) fun y230 =>
  Let ((j201 ++ y230)) fun l232 =>
  Gd (l232.length ≤ LIM) (
  Let (iadd .i64 j202 1) fun x235 =>
  ((F170_l0 x24 p0 k) l232 x235)))) (
  Let (p0.Seal) fun x236 =>
  Let ((vat p0.Path (0 : Int))) fun x237 =>
  Let ((vat p0.Path (1 : Int))) fun x238 =>
  Let ((vat p0.Path (2 : Int))) fun x239 =>
  Let ((p0.Boxes.length : Int)) fun x240 =>
  Bd (F249 ([x236, x237, x238, x239, x240] : (List Int))) fun y242 =>
  Let ((j201 ++ y242)) fun l244 =>
  Gd (l244.length ≤ LIM) (
  Let ((p0.Boxes.length : Int)) fun x247 =>
  (F170_l1 x247 p0 FUEL l244 0)))

def F170 (p0 : SCommit) : Option ((List Int)) :=
  Let (p0.Epoch) fun x1_3 =>
  Let (p0.From) fun x1_5 =>
  Let ((p0.Ops.length : Int)) fun x1_8 =>
  Bd (F249 ([x1_3, x1_5, x1_8] : (List Int))) fun y1_10 =>
  Bd (F237 p0.Ops) fun y1_13 =>
  Let ((p0.Votes.length : Int)) fun x1_16 =>
  Bd (F249 ([x1_16] : (List Int))) fun y1_18 =>
  Bd (F247 ([y1_10, y1_13, y1_18] : (List (List Int)))) fun y1_20 =>
  Let ((p0.Votes.length : Int)) fun x24 =>
  (F170_l0 x24 p0 FUEL y1_20 0)

def F92 (p0 : SView) (p1 : SCommit) : Option ((Vector Int 32)) :=
  Let (p0.Chain) fun x4 =>
  Bd (F170 (⟨p1.Epoch, p1.From, p1.Ops, p1.Votes, p1.Seal, p1.Path, p1.Boxes, p1.Tag, p1.Sig⟩ : SCommit)) fun y5 =>
  Bd (F83 x4 (⟨#[99, 104, 97, 105, 110]⟩ : ByteArray) ([y5] : (List (List Int)))) fun y8 =>
  some (y8)

def F93 (p0 : (Vector Int 32)) (p1 : (Vector Int 32)) : Option ((Vector Int 32)) :=
  Bd (F83 p0 (⟨#[106, 111, 105, 110, 116]⟩ : ByteArray) ([p1.toList] : (List (List Int)))) fun y5 =>
  some (y5)

def F94 (p0 : SpartyParty) (p1 : SView) (p2 : (Vector Int 32)) : Option ((Vector Int 32) × SpartyParty) :=
  Bd (F171 p1) fun y4 =>
  Bd (F83 p2 (⟨#[101, 112, 111, 99, 104]⟩ : ByteArray) ([y4.toList] : (List (List Int)))) fun y7 =>
  Bd (F83 y7 (⟨#[105, 110, 105, 116]⟩ : ByteArray) []) fun y8 =>
  Bd (F83 y7 (⟨#[116, 97, 103]⟩ : ByteArray) []) fun y9 =>
  some (y9, (⟨p1, p0.leaf, p0.signer, p0.own, p0.has', p0.nodes, y7, y8⟩ : SpartyParty))

def F96 (p0 : SCommit) : Option ((List Int)) :=
  Bd (F170 (⟨p0.Epoch, p0.From, p0.Ops, p0.Votes, p0.Seal, p0.Path, p0.Boxes, p0.Tag, p0.Sig⟩ : SCommit)) fun y2 =>
  Let ((y2 ++ p0.Tag.toList)) fun l4 =>
  Gd (l4.length ≤ LIM) (
  some (l4))

def F172 (p0 : (Option Int)) : Option (Int) :=
  Mo p0 (
  some (0)) fun x1 => (
  some (x1))

def F95 (p0 : (Option Int)) (p1 : (List Int)) : Option (SSig) :=
  Mo p0 (
  some (SSig.zero)) fun x2 => (
  Bd (F172 p0) fun y7 =>
  Bd (F174 y7) fun y8 =>
  Bd (F83 (Vector.replicate 32 (0 : Int)) (⟨#[110, 111, 110, 99, 101]⟩ : ByteArray) ([y8, p1] : (List (List Int)))) fun y11 =>
  Bd (F173 y11) fun y12 =>
  Bd (F176 4 y12) fun y13 =>
  Bd (F114 p0) fun y14 =>
  Bd (F175 y13 y14 p1) fun y15 =>
  Let (imul .i64 y15 y7) fun x16 =>
  Let (iadd .i64 y12 x16) fun x17 =>
  Let (irem x17 1073741789) fun x18 =>
  Let ({ { SSig.zero with E := y15 } with S := x18 }) fun x19 =>
  some (x19))

def F215_l0 (p0 : Int) (p1 : Int) : Nat → Int → Option (Int)
  | 0, _ => none
  | k + 1, j37_8 =>
  Bd (F246 p0 j37_8) fun y38_8 =>
  Bd (F246 p1 j37_8) fun y39_8 =>
  Let (decide (y38_8 ≠ y39_8)) fun x40_8 =>
  Br x40_8 (
  Let (iadd .i64 j37_8 1) fun x43_8 =>
  ((F215_l0 p0 p1 k) x43_8)) (
  Bd (F246 p0 j37_8) fun y44_8 =>
  some (y44_8))

def F215_j0 (p0 : Int) (p1 : Int) (j7 : Bool) : Option (Int) :=
  Br j7 (
  some (0)) (
  (F215_l0 p0 p1 FUEL 0))

def F215 (p0 : Int) (p1 : Int) : Option (Int) :=
  Bd (F245 p0) fun y1 =>
  Let (!y1) fun x2 =>
  Br x2 (
  (F215_j0 p0 p1 true)) (
  Bd (F245 p1) fun y4 =>
  Let (!y4) fun x5 =>
  (F215_j0 p0 p1 x5))

def F130_l0 (y2 : ((Vector Int 3))) (y1 : (Int)) : Nat → Int → Option (Int)
  | 0, _ => none
  | k + 1, j26 =>
  Let (decide (j26 < 3)) fun x27 =>
  Br x27 (
  Gd (0 ≤ j26 ∧ j26 < 3) (
  Let ((vat y2 j26)) fun x36 =>
  Let (decide (x36 = y1)) fun x37 =>
  Br x37 (
  some (j26)) (
  Let (iadd .i64 j26 1) fun x38 =>
  ((F130_l0 y2 y1 k) x38)))) (
  some (0))

def F130 (p0 : Int) (p1 : Int) : Option (Int) :=
  Bd (F215 p0 p1) fun y1 =>
  Bd (F166 p0) fun y2 =>
  (F130_l0 y2 y1 FUEL 0)

def F97 (p0 : (Option SpartyParty)) (p1 : Int) (p2 : (Vector Int 32)) (p3 : (Vector Int 32)) (p4 : (Vector Int 32)) : Option (SWelcome × Int) :=
  Mo p0 (
  Gd (False) (
  none)) fun x20 => (
  Let (x20.leaf) fun x1_9 =>
  Bd (F130 x1_9 p1) fun y1_11 =>
  Gd (0 ≤ y1_11 ∧ y1_11 < 3) (
  Let ((vat x20.nodes y1_11)) fun x1_15 =>
  Gd (0 ≤ p1 ∧ p1 < 8) (
  Let ((vat x20.v.Tree.Leaves p1).Seal) fun x22 =>
  Bd (F169 p1) fun y23 =>
  Bd (F83 p4 (⟨#[104, 101, 108, 108, 111]⟩ : ByteArray) ([y23] : (List (List Int)))) fun y26 =>
  Let ((p2.toList ++ x1_15.toList)) fun l27 =>
  Gd (l27.length ≤ LIM) (
  Bd (F167 x22 y26 l27) fun y30 =>
  Let (x20.leaf) fun x32 =>
  Let (x20.v) fun x33 =>
  some ((⟨p1, x32, x33, y30.1, p3⟩ : SWelcome), y30.2)))))

def F32_j2 (j227_46_4 : Int) (rec0 : (List SWelcome) → Int → Option (SCommit × (List SWelcome) × (Option SpartyParty) × Int)) (j256_46_4 : (List SWelcome)) : Option (SCommit × (List SWelcome) × (Option SpartyParty) × Int) :=
  Let (iadd .i64 j227_46_4 1) fun x1_46_4_258 =>
  (rec0 j256_46_4 x1_46_4_258)

def F32_l0 (x57_46_4 : (Vector Bool 8)) (y52_46_4 : ((Vector Int 32) × SpartyParty)) (y1_46_4_47 : ((Vector Int 32))) (p3 : (Vector Int 32)) (y20_46_4 : ((Vector Int 32) × SpartyParty × SCommit)) (y29_46_4 : ((List (List Int)) × Int)) (y56_46_4 : (SSig)) : Nat → (List SWelcome) → Int → Option (SCommit × (List SWelcome) × (Option SpartyParty) × Int)
  | 0, _, _ => none
  | k + 1, j225_46_4, j227_46_4 =>
  Let (decide (j227_46_4 < 8)) fun x228_46_4 =>
  Br x228_46_4 (
  Gd (0 ≤ j227_46_4 ∧ j227_46_4 < 8) (
  Let ((vat x57_46_4 j227_46_4)) fun x232_46_4 =>
  Let (!x232_46_4) fun x233_46_4 =>
  Br x233_46_4 (
  (F32_j2 j227_46_4 (F32_l0 x57_46_4 y52_46_4 y1_46_4_47 p3 y20_46_4 y29_46_4 y56_46_4 k) j225_46_4)) (
  Let (y52_46_4.1) fun x237_46_4 =>
  Bd (F97 (some (⟨y52_46_4.2.v, y52_46_4.2.leaf, y52_46_4.2.signer, y52_46_4.2.own, y52_46_4.2.has', y52_46_4.2.nodes, y52_46_4.2.epoch, y52_46_4.2.init'⟩ : SpartyParty)) j227_46_4 y1_46_4_47 x237_46_4 p3) fun y238_46_4 =>
  Let (decide (y238_46_4.2 ≠ 0)) fun x241_46_4 =>
  Br x241_46_4 (
  Let ((Vector.replicate 3 (0 : Int))) fun c246_46_4 =>
  Let ((Vector.replicate 32 (0 : Int))) fun c247_46_4 =>
  some ((⟨(0 : Int), (0 : Int), ([] : (List SOp)), ([] : (List SVote)), (0 : Int), c246_46_4, ([] : (List (List Int))), c247_46_4, SSig.zero⟩ : SCommit), [], none, y238_46_4.2)) (
  Let ((j225_46_4 ++ ([(⟨y238_46_4.1.Leaf, y238_46_4.1.From, y238_46_4.1.View, y238_46_4.1.Box, y238_46_4.1.Tag⟩ : SWelcome)] : (List SWelcome)))) fun l250_46_4 =>
  Gd (l250_46_4.length ≤ LIM) (
  (F32_j2 j227_46_4 (F32_l0 x57_46_4 y52_46_4 y1_46_4_47 p3 y20_46_4 y29_46_4 y56_46_4 k) l250_46_4)))))) (
  some ((⟨y20_46_4.2.2.Epoch, y20_46_4.2.2.From, y20_46_4.2.2.Ops, y20_46_4.2.2.Votes, y20_46_4.2.2.Seal, y20_46_4.2.2.Path, y29_46_4.1, y52_46_4.1, y56_46_4⟩ : SCommit), j225_46_4, (some (⟨y52_46_4.2.v, y52_46_4.2.leaf, y52_46_4.2.signer, y52_46_4.2.own, y52_46_4.2.has', y52_46_4.2.nodes, y52_46_4.2.epoch, y52_46_4.2.init'⟩ : SpartyParty)), 0))

def F32_j1 (p0 : (Option SpartyParty)) (x3 : SpartyParty) (p1 : (List SOp)) (p2 : (List SVote)) (p3 : (Vector Int 32)) (y1_25 : (SView × (Vector Bool 8) × (Vector Bool 8) × Int)) (j3_46 : Int) : Option (SCommit × (List SWelcome) × (Option SpartyParty) × Int) :=
  Let (decide (j3_46 ≠ 0)) fun x1_46_4 =>
  Br x1_46_4 (
  some ((⟨(0 : Int), (0 : Int), ([] : (List SOp)), ([] : (List SVote)), (0 : Int), (Vector.replicate 3 (0 : Int)), ([] : (List (List Int))), (Vector.replicate 32 (0 : Int)), SSig.zero⟩ : SCommit), [], none, j3_46)) (
  Bd (F45 p0) fun y4_46_4 =>
  Let (x3.v.Epoch) fun x9_46_4 =>
  Let (x3.leaf) fun x10_46_4 =>
  Let (([] ++ p1)) fun l11_46_4 =>
  Gd (l11_46_4.length ≤ LIM) (
  Let (([] ++ p2)) fun l14_46_4 =>
  Gd (l14_46_4.length ≤ LIM) (
  Mo y4_46_4 (
  Gd (False) (
  none)) fun x17_46_4 => (
  Bd (F89 (⟨x17_46_4.v, x17_46_4.leaf, x17_46_4.signer, x17_46_4.own, x17_46_4.has', x17_46_4.nodes, x17_46_4.epoch, x17_46_4.init'⟩ : SpartyParty) p3 (⟨x9_46_4, x10_46_4, l11_46_4, l14_46_4, (0 : Int), (Vector.replicate 3 (0 : Int)), ([] : (List (List Int))), (Vector.replicate 32 (0 : Int)), SSig.zero⟩ : SCommit)) fun y20_46_4 =>
  Let (y1_25.1) fun x26_46_4 =>
  Bd (F90 x26_46_4 (⟨y20_46_4.2.2.Epoch, y20_46_4.2.2.From, y20_46_4.2.2.Ops, y20_46_4.2.2.Votes, y20_46_4.2.2.Seal, y20_46_4.2.2.Path, y20_46_4.2.2.Boxes, y20_46_4.2.2.Tag, y20_46_4.2.2.Sig⟩ : SCommit)) fun y27_46_4 =>
  Let (y1_25.2.1) fun x28_46_4 =>
  Bd (F91 (some (⟨y20_46_4.2.1.v, y20_46_4.2.1.leaf, y20_46_4.2.1.signer, y20_46_4.2.1.own, y20_46_4.2.1.has', y20_46_4.2.1.nodes, y20_46_4.2.1.epoch, y20_46_4.2.1.init'⟩ : SpartyParty)) y27_46_4 x28_46_4 p3) fun y29_46_4 =>
  Let (decide (y29_46_4.2 ≠ 0)) fun x32_46_4 =>
  Br x32_46_4 (
  Let ((Vector.replicate 3 (0 : Int))) fun c37_46_4 =>
  Let ((Vector.replicate 32 (0 : Int))) fun c38_46_4 =>
  some ((⟨(0 : Int), (0 : Int), ([] : (List SOp)), ([] : (List SVote)), (0 : Int), c37_46_4, ([] : (List (List Int))), c38_46_4, SSig.zero⟩ : SCommit), [], none, y29_46_4.2)) (
  Let (x3.v) fun x39_46_4 =>
  Bd (F92 x39_46_4 (⟨y20_46_4.2.2.Epoch, y20_46_4.2.2.From, y20_46_4.2.2.Ops, y20_46_4.2.2.Votes, y20_46_4.2.2.Seal, y20_46_4.2.2.Path, y29_46_4.1, y20_46_4.2.2.Tag, y20_46_4.2.2.Sig⟩ : SCommit)) fun y40_46_4 =>
  Let ({ y27_46_4 with Chain := y40_46_4 }) fun c41_46_4 =>
  Let (x3.init') fun x1_46_4_45 =>
  Let (y20_46_4.1) fun x1_46_4_46 =>
  Bd (F93 x1_46_4_45 x1_46_4_46) fun y1_46_4_47 =>
  Bd (F94 (⟨y20_46_4.2.1.v, y20_46_4.2.1.leaf, y20_46_4.2.1.signer, y20_46_4.2.1.own, y20_46_4.2.1.has', y20_46_4.2.1.nodes, y20_46_4.2.1.epoch, y20_46_4.2.1.init'⟩ : SpartyParty) c41_46_4 y1_46_4_47) fun y52_46_4 =>
  Bd (F96 (⟨y20_46_4.2.2.Epoch, y20_46_4.2.2.From, y20_46_4.2.2.Ops, y20_46_4.2.2.Votes, y20_46_4.2.2.Seal, y20_46_4.2.2.Path, y29_46_4.1, y52_46_4.1, y20_46_4.2.2.Sig⟩ : SCommit)) fun y54_46_4 =>
  Bd (F95 x3.signer y54_46_4) fun y56_46_4 =>
  Let (y1_25.2.1) fun x57_46_4 =>
  (F32_l0 x57_46_4 y52_46_4 y1_46_4_47 p3 y20_46_4 y29_46_4 y56_46_4 FUEL [] 0))))))

def F32_j0 (p0 : (Option SpartyParty)) (x3 : SpartyParty) (p1 : (List SOp)) (p2 : (List SVote)) (p3 : (Vector Int 32)) (y1_25 : (SView × (Vector Bool 8) × (Vector Bool 8) × Int)) (j45 : Bool) : Option (SCommit × (List SWelcome) × (Option SpartyParty) × Int) :=
  Br j45 (
  (F32_j1 p0 x3 p1 p2 p3 y1_25 12)) (
  (F32_j1 p0 x3 p1 p2 p3 y1_25 y1_25.2.2.2))

def F32 (p0 : (Option SpartyParty)) (p1 : (List SOp)) (p2 : (List SVote)) (p3 : (Vector Int 32)) : Option (SCommit × (List SWelcome) × (Option SpartyParty) × Int) :=
  Mo p0 (
  some ((⟨(0 : Int), (0 : Int), ([] : (List SOp)), ([] : (List SVote)), (0 : Int), (Vector.replicate 3 (0 : Int)), ([] : (List (List Int))), (Vector.replicate 32 (0 : Int)), SSig.zero⟩ : SCommit), [], none, 13)) fun x3 => (
  Let (x3.v) fun x10 =>
  Let (x3.leaf) fun x11 =>
  Bd (F87 x10 x11 p1 p2) fun y12 =>
  Let (decide (y12 ≠ 0)) fun x13 =>
  Br x13 (
  some ((⟨(0 : Int), (0 : Int), ([] : (List SOp)), ([] : (List SVote)), (0 : Int), (Vector.replicate 3 (0 : Int)), ([] : (List (List Int))), (Vector.replicate 32 (0 : Int)), SSig.zero⟩ : SCommit), [], none, y12)) (
  Let (x3.v) fun x1_19 =>
  Let (x3.leaf) fun x1_23 =>
  Bd (F88 x1_19 x1_23 p1) fun y1_25 =>
  Let (decide (y1_25.2.2.2 = 0)) fun x40 =>
  Br x40 (
  Let (x3.v.Epoch) fun x41 =>
  Let (decide (1099511627776 ≤ x41)) fun x42 =>
  (F32_j0 p0 x3 p1 p2 p3 y1_25 x42)) (
  (F32_j0 p0 x3 p1 p2 p3 y1_25 false))))

def F42 (p0 : (Option SpartyParty)) : Option (Int) :=
  Mo p0 (
  some (0)) fun x1 => (
  Let (x1.leaf) fun x8 =>
  some (x8))

def F43 (p0 : (Option SpartyParty)) : Option ((Option Int)) :=
  Mo p0 (
  some (none)) fun x1 => (
  some (x1.signer))

def F116_j1 (p1 : SCommit) (x17_17 : SpartyParty) (j28_17 : Bool) : Option (Int) :=
  Br j28_17 (
  some (6)) (
  Let (p1.From) fun x1_17_29 =>
  Gd (0 ≤ x1_17_29 ∧ x1_17_29 < 8) (
  Let ((vat x17_17.v.Tree.Leaves x1_17_29).Sign) fun x5_17_29 =>
  Let (p1.Sig) fun x6_17_29 =>
  Bd (F96 (⟨p1.Epoch, p1.From, p1.Ops, p1.Votes, p1.Seal, p1.Path, p1.Boxes, p1.Tag, p1.Sig⟩ : SCommit)) fun y7_17_29 =>
  Bd (F157 x5_17_29 y7_17_29 x6_17_29) fun y9_17_29 =>
  Let (!y9_17_29) fun x10_17_29 =>
  Br x10_17_29 (
  some (4)) (
  Let (x17_17.v) fun x11_17_29 =>
  Let (p1.From) fun x12_17_29 =>
  Bd (F87 x11_17_29 x12_17_29 p1.Ops p1.Votes) fun y13_17_29 =>
  some (y13_17_29))))

def F116_j0 (p1 : SCommit) (p0 : (Option SpartyParty)) (j16 : Bool) : Option (Int) :=
  Let (p1.Epoch) fun x16_17 =>
  Mo p0 (
  Gd (False) (
  none)) fun x17_17 => (
  Let (x17_17.v.Epoch) fun x20_17 =>
  Let (decide (x16_17 ≠ x20_17)) fun x21_17 =>
  Br x21_17 (
  some (5)) (
  Let (!j16) fun x22_17 =>
  Br x22_17 (
  (F116_j1 p1 x17_17 true)) (
  Let (p1.From) fun x24_17 =>
  Let (x17_17.leaf) fun x25_17 =>
  Let (decide (x24_17 = x25_17)) fun x26_17 =>
  (F116_j1 p1 x17_17 x26_17))))

def F116 (p0 : (Option SpartyParty)) (p1 : SCommit) : Option (Int) :=
  Let (p1.From) fun x2 =>
  Let (decide (0 ≤ x2)) fun x3 =>
  Br x3 (
  Let (p1.From) fun x4 =>
  Let (decide (x4 < 8)) fun x5 =>
  Br x5 (
  Let (p1.From) fun x6 =>
  Mo p0 (
  Gd (False) (
  none)) fun x7 => (
  Gd (0 ≤ x6 ∧ x6 < 8) (
  Let ((vat x7.v.Tree.Leaves x6)) fun x11 =>
  Let (decide (x11 ≠ SLeaf.zero)) fun x12 =>
  (F116_j0 p1 p0 x12)))) (
  (F116_j0 p1 p0 false))) (
  (F116_j0 p1 p0 false))

def F117 (p0 : SCommit) : Option (Bool) :=
  Let (p0.Seal) fun x2 =>
  Bd (F201 x2) fun y3 =>
  Br y3 (
  Let ((vat p0.Path (0 : Int))) fun x4 =>
  Bd (F201 x4) fun y5 =>
  Br y5 (
  Let ((vat p0.Path (1 : Int))) fun x6 =>
  Bd (F201 x6) fun y7 =>
  Br y7 (
  Let ((vat p0.Path (2 : Int))) fun x8 =>
  Bd (F201 x8) fun y9 =>
  some (y9)) (
  some (false))) (
  some (false))) (
  some (false))

def F204_l0 (p1 : Int) (p0 : Int) : Nat → Int → Option (Bool)
  | 0, _ => none
  | k + 1, j24_8 =>
  Let (decide (j24_8 < 4)) fun x25_8 =>
  Br x25_8 (
  Bd (F246 p1 j24_8) fun y32_8 =>
  Let (decide (y32_8 = p0)) fun x33_8 =>
  Br x33_8 (
  some (true)) (
  Let (iadd .i64 j24_8 1) fun x34_8 =>
  ((F204_l0 p1 p0 k) x34_8))) (
  some (false))

def F204_j0 (p1 : Int) (p0 : Int) (j7 : Bool) : Option (Bool) :=
  Br j7 (
  some (false)) (
  (F204_l0 p1 p0 FUEL 0))

def F204 (p0 : Int) (p1 : Int) : Option (Bool) :=
  Bd (F248 p0) fun y1 =>
  Let (!y1) fun x2 =>
  Br x2 (
  (F204_j0 p1 p0 true)) (
  Bd (F245 p1) fun y4 =>
  Let (!y4) fun x5 =>
  (F204_j0 p1 p0 x5))

def F205_j0 (j64 : Int) (x1 : SpartyParty) (rec0 : Int → Option ((Option Int))) (j88 : Bool) : Option ((Option Int)) :=
  Br j88 (
  Gd (0 ≤ j64 ∧ j64 < 3) (
  Let ((vat x1.nodes j64)) fun x4_89 =>
  Bd (F129 x4_89) fun y5_89 =>
  some (y5_89))) (
  Let (iadd .i64 j64 1) fun x7_89 =>
  (rec0 x7_89))

def F205_l0 (y16 : ((Vector Int 3))) (p1 : Int) (x1 : SpartyParty) : Nat → Int → Option ((Option Int))
  | 0, _ => none
  | k + 1, j64 =>
  Let (decide (j64 < 3)) fun x65 =>
  Br x65 (
  Gd (0 ≤ j64 ∧ j64 < 3) (
  Let ((vat y16 j64)) fun x80 =>
  Let (decide (x80 = p1)) fun x81 =>
  Br x81 (
  Gd (0 ≤ j64 ∧ j64 < 3) (
  Let ((vat x1.has' j64)) fun x85 =>
  (F205_j0 j64 x1 (F205_l0 y16 p1 x1 k) x85))) (
  (F205_j0 j64 x1 (F205_l0 y16 p1 x1 k) false)))) (
  some (none))

def F205 (p0 : (Option SpartyParty)) (p1 : Int) : Option ((Option Int)) :=
  Mo p0 (
  Gd (False) (
  none)) fun x1 => (
  Let (x1.leaf) fun x4 =>
  Let (imul .i64 2 x4) fun x5 =>
  Let (decide (p1 = x5)) fun x6 =>
  Br x6 (
  Let (x1.own) fun x12 =>
  Bd (F129 x12) fun y13 =>
  some (y13)) (
  Let (x1.leaf) fun x15 =>
  Bd (F166 x15) fun y16 =>
  (F205_l0 y16 p1 x1 FUEL 0)))

def F211_l0 (x1 : Int) (p0 : (List Int)) : Nat → Int → Int → Option (Int)
  | 0, _, _ => none
  | k + 1, j42, j43 =>
  Let (decide (j43 < x1)) fun x44 =>
  Br x44 (
  Gd ((0 : Int) ≤ j43 ∧ j43 < (p0.length : Int)) (
  Let ((lat p0 j43)) fun x58 =>
  Let (ishl .i64 j42 8) fun x59 =>
  Let (icon .i64 x58) fun x60 =>
  Let (ior .i64 x59 x60) fun x61 =>
  Let (iadd .i64 j43 1) fun x62 =>
  ((F211_l0 x1 p0 k) x61 x62))) (
  some (j42))

def F211 (p0 : (List Int)) : Option (Int) :=
  Let ((p0.length : Int)) fun x1 =>
  (F211_l0 x1 p0 FUEL 0 0)

def F212_l0 (x6 : Int) (p0 : (List Int)) (p1 : (List Int)) : Nat → Int → Option (Bool)
  | 0, _ => none
  | k + 1, j56 =>
  Let (decide (j56 < x6)) fun x57 =>
  Br x57 (
  Gd ((0 : Int) ≤ j56 ∧ j56 < (p0.length : Int)) (
  Let ((lat p0 j56)) fun x74 =>
  Gd ((0 : Int) ≤ j56 ∧ j56 < (p1.length : Int)) (
  Let ((lat p1 j56)) fun x78 =>
  Let (decide (x74 ≠ x78)) fun x79 =>
  Br x79 (
  some (false)) (
  Let (iadd .i64 j56 1) fun x80 =>
  ((F212_l0 x6 p0 p1 k) x80))))) (
  some (true))

def F212 (p0 : (List Int)) (p1 : (List Int)) : Option (Bool) :=
  Let ((p0.length : Int)) fun x1 =>
  Let ((p1.length : Int)) fun x2 =>
  Let (decide (x1 ≠ x2)) fun x3 =>
  Br x3 (
  some (false)) (
  Let ((p0.length : Int)) fun x6 =>
  (F212_l0 x6 p0 p1 FUEL 0))

def F128_j1 (y6_8 : ((Vector Int 32) × Bool)) (p1 : (List Int)) (j17_8 : Bool) : Option ((List Int) × Int) :=
  Br j17_8 (
  some ([], 3)) (
  Let (y6_8.1) fun x3_8_18 =>
  Bd (F214 x3_8_18 (cut p1 (12 : Int) (p1.length : Int))) fun y4_8_18 =>
  some (y4_8_18, 0))

def F128_j0 (p1 : (List Int)) (p0 : (Option Int)) (j7 : Bool) : Option ((List Int) × Int) :=
  Br j7 (
  some ([], 2)) (
  Gd (0 ≤ (0 : Int) ∧ (0 : Int) ≤ (4 : Int) ∧ (4 : Int) ≤ (p1.length : Int)) (
  Gd (0 ≤ (12 : Int) ∧ (12 : Int) ≤ (p1.length : Int) ∧ (p1.length : Int) ≤ (p1.length : Int)) (
  Bd (F211 (cut p1 (0 : Int) (4 : Int))) fun y5_8 =>
  Bd (F210 p0 y5_8) fun y6_8 =>
  Let (!y6_8.2) fun x8_8 =>
  Br x8_8 (
  (F128_j1 y6_8 p1 true)) (
  Let (y6_8.1) fun x10_8 =>
  Gd (0 ≤ (4 : Int) ∧ (4 : Int) ≤ (12 : Int) ∧ (12 : Int) ≤ (p1.length : Int)) (
  Bd (F213 x10_8 (cut p1 (0 : Int) (4 : Int)) (cut p1 (12 : Int) (p1.length : Int))) fun y12_8 =>
  Bd (F212 y12_8 (cut p1 (4 : Int) (12 : Int))) fun y14_8 =>
  Let (!y14_8) fun x15_8 =>
  (F128_j1 y6_8 p1 x15_8))))))

def F128 (p0 : (Option Int)) (p1 : (List Int)) : Option ((List Int) × Int) :=
  Let ((p1.length : Int)) fun x1 =>
  Let (decide (x1 < 12)) fun x2 =>
  Br x2 (
  (F128_j0 p1 p0 true)) (
  Let ((p1.length : Int)) fun x4 =>
  Let (decide (212 < x4)) fun x5 =>
  (F128_j0 p1 p0 x5))

def F119_l0 (x4 : Int) (p2 : (List (Vector Int 2))) (p0 : (Option SpartyParty)) (p1 : SCommit) : Nat → Int → Option ((Vector Int 32) × Int × Int)
  | 0, _ => none
  | k + 1, j472 =>
  Let (decide (j472 < x4)) fun x473 =>
  Br x473 (
  Gd ((0 : Int) ≤ j472 ∧ j472 < (p2.length : Int)) (
  Let ((lat p2 j472)) fun x525 =>
  Let ((vat x525 (1 : Int))) fun x527 =>
  Mo p0 (
  Gd (False) (
  none)) fun x528 => (
  Let (x528.leaf) fun x531 =>
  Bd (F204 x527 x531) fun y532 =>
  Let (!y532) fun x533 =>
  Br x533 (
  Let (iadd .i64 j472 1) fun x536 =>
  ((F119_l0 x4 p2 p0 p1 k) x536)) (
  Let ((vat x525 (1 : Int))) fun x537 =>
  Gd ((0 : Int) ≤ j472 ∧ j472 < (p1.Boxes.length : Int)) (
  Let ((lat p1.Boxes j472)) fun y543 =>
  Bd (F205 p0 x537) fun y545 =>
  Bd (F128 y545 y543) fun y547 =>
  Let (decide (y547.2 ≠ 0)) fun x557 =>
  Br x557 (
  Let ((Vector.replicate 32 (0 : Int))) fun x558 =>
  some (x558, 0, 3)) (
  Let ((y547.1.length : Int)) fun x559 =>
  Let (decide (x559 ≠ 32)) fun x560 =>
  Br x560 (
  Let ((Vector.replicate 32 (0 : Int))) fun x561 =>
  some (x561, 0, 10)) (
  Let (((min y547.1.length 32 : Nat) : Int)) fun x562 =>
  Let ((vcopy (Vector.replicate 32 (0 : Int)) y547.1)) fun c563 =>
  Let ((vat x525 (0 : Int))) fun x564 =>
  some (c563, x564, 0)))))))) (
  Let ((Vector.replicate 32 (0 : Int))) fun x565 =>
  some (x565, 0, 10))

def F119 (p0 : (Option SpartyParty)) (p1 : SCommit) (p2 : (List (Vector Int 2))) : Option ((Vector Int 32) × Int × Int) :=
  Let ((p2.length : Int)) fun x4 =>
  (F119_l0 x4 p2 p0 p1 FUEL 0)

def F120_j0 (j241 : Int) (rec0 : Int → (Vector Int 32) → (Vector Bool 3) → (Vector (Vector Int 32) 3) → Option ((Vector Int 32) × Bool × SpartyParty)) (j289 : (Vector Int 32)) (j290 : (Vector Bool 3)) (j291 : (Vector (Vector Int 32) 3)) : Option ((Vector Int 32) × Bool × SpartyParty) :=
  Let (iadd .i64 j241 1) fun x1_292 =>
  (rec0 x1_292 j289 j290 j291)

def F120_l0 (y5 : ((Vector Int 3))) (p2 : Int) (p3 : SView) (p0 : SpartyParty) : Nat → Int → (Vector Int 32) → (Vector Bool 3) → (Vector (Vector Int 32) 3) → Option ((Vector Int 32) × Bool × SpartyParty)
  | 0, _, _, _, _ => none
  | k + 1, j241, j242, j243, j244 =>
  Let (decide (j241 < 3)) fun x245 =>
  Br x245 (
  Gd (0 ≤ j241 ∧ j241 < 3) (
  Let ((vat y5 j241)) fun x249 =>
  Let (decide (j241 < p2)) fun x250 =>
  Br x250 (
  Gd (0 ≤ j241 ∧ j241 < 3) (
  Let ((vat j243 j241)) fun x264 =>
  Br x264 (
  Gd (0 ≤ x249 ∧ x249 < 15) (
  Let ((vat p3.Tree.Nodes x249)) fun x266 =>
  Let (decide (x266 ≠ 0)) fun x267 =>
  Gd (0 ≤ j241 ∧ j241 < 3) (
  Let ((vup j243 j241 x267)) fun c269 =>
  (F120_j0 j241 (F120_l0 y5 p2 p3 p0 k) j242 c269 j244)))) (
  Gd (0 ≤ j241 ∧ j241 < 3) (
  Let ((vup j243 j241 false)) fun c272 =>
  (F120_j0 j241 (F120_l0 y5 p2 p3 p0 k) j242 c272 j244))))) (
  Gd (0 ≤ x249 ∧ x249 < 15) (
  Let ((vat p3.Tree.Nodes x249)) fun x275 =>
  Bd (F129 j242) fun y276 =>
  Bd (F114 y276) fun y278 =>
  Let (decide (y278 ≠ x275)) fun x279 =>
  Br x279 (
  some (j242, false, (⟨p0.v, p0.leaf, p0.signer, p0.own, j243, j244, p0.epoch, p0.init'⟩ : SpartyParty))) (
  Gd (0 ≤ j241 ∧ j241 < 3) (
  Let ((vup j244 j241 j242)) fun c284 =>
  Gd (0 ≤ j241 ∧ j241 < 3) (
  Let ((vup j243 j241 true)) fun c286 =>
  Bd (F206 j242) fun y287 =>
  (F120_j0 j241 (F120_l0 y5 p2 p3 p0 k) y287 c286 c284)))))))) (
  some (j242, true, (⟨p0.v, p0.leaf, p0.signer, p0.own, j243, j244, p0.epoch, p0.init'⟩ : SpartyParty)))

def F120 (p0 : SpartyParty) (p1 : (Vector Int 32)) (p2 : Int) (p3 : SView) : Option ((Vector Int 32) × Bool × SpartyParty) :=
  Let (p0.leaf) fun x4 =>
  Bd (F166 x4) fun y5 =>
  (F120_l0 y5 p2 p3 p0 FUEL 0 p1 p0.has' p0.nodes)

def F41 (p0 : (Option SpartyParty)) (p1 : SCommit) : Option ((Option SpartyParty) × Int) :=
  Mo p0 (
  some (none, 13)) fun x2 => (
  Bd (F116 p0 (⟨p1.Epoch, p1.From, p1.Ops, p1.Votes, p1.Seal, p1.Path, p1.Boxes, p1.Tag, p1.Sig⟩ : SCommit)) fun y7 =>
  Let (decide (y7 ≠ 0)) fun x8 =>
  Br x8 (
  some (none, y7)) (
  Let (x2.v) fun x1_14 =>
  Let (p1.From) fun x1_16 =>
  Bd (F88 x1_14 x1_16 p1.Ops) fun y1_19 =>
  Let (decide (y1_19.2.2.2 ≠ 0)) fun x47 =>
  Br x47 (
  some (none, y1_19.2.2.2)) (
  Let (x2.leaf) fun x48 =>
  Gd (0 ≤ x48 ∧ x48 < 8) (
  Let ((vat y1_19.2.2.1 x48)) fun x50 =>
  Br x50 (
  some (none, 0)) (
  Let (x2.v.Epoch) fun x51 =>
  Let (decide (1099511627776 ≤ x51)) fun x52 =>
  Br x52 (
  some (none, 12)) (
  Bd (F117 (⟨p1.Epoch, p1.From, p1.Ops, p1.Votes, p1.Seal, p1.Path, p1.Boxes, p1.Tag, p1.Sig⟩ : SCommit)) fun y53 =>
  Let (!y53) fun x54 =>
  Br x54 (
  some (none, 10)) (
  Let (y1_19.1) fun x55 =>
  Bd (F90 x55 (⟨p1.Epoch, p1.From, p1.Ops, p1.Votes, p1.Seal, p1.Path, p1.Boxes, p1.Tag, p1.Sig⟩ : SCommit)) fun y56 =>
  Let (y56.Tree) fun x57 =>
  Let (p1.From) fun x58 =>
  Let (y1_19.2.1) fun x59 =>
  Bd (F118 x57 x58 x59) fun y60 =>
  Let ((y60.length : Int)) fun x62 =>
  Let ((p1.Boxes.length : Int)) fun x63 =>
  Let (decide (x62 ≠ x63)) fun x64 =>
  Br x64 (
  some (none, 10)) (
  Bd (F119 p0 (⟨p1.Epoch, p1.From, p1.Ops, p1.Votes, p1.Seal, p1.Path, p1.Boxes, p1.Tag, p1.Sig⟩ : SCommit) y60) fun y67 =>
  Let (decide (y67.2.2 ≠ 0)) fun x69 =>
  Br x69 (
  some (none, y67.2.2)) (
  Bd (F45 p0) fun y72 =>
  Let (y67.1) fun x75 =>
  Mo y72 (
  Gd (False) (
  none)) fun x76 => (
  Bd (F120 (⟨x76.v, x76.leaf, x76.signer, x76.own, x76.has', x76.nodes, x76.epoch, x76.init'⟩ : SpartyParty) x75 y67.2.1 y56) fun y79 =>
  Let (!y79.2.1) fun x82 =>
  Br x82 (
  some (none, 10)) (
  Let (x2.v) fun x85 =>
  Bd (F92 x85 (⟨p1.Epoch, p1.From, p1.Ops, p1.Votes, p1.Seal, p1.Path, p1.Boxes, p1.Tag, p1.Sig⟩ : SCommit)) fun y86 =>
  Let ({ y56 with Chain := y86 }) fun c87 =>
  Let (x2.init') fun x88 =>
  Let (y79.1) fun x89 =>
  Let (p1.Tag) fun x90 =>
  Bd (F93 x88 x89) fun y91 =>
  Bd (F94 (⟨y79.2.2.v, y79.2.2.leaf, y79.2.2.signer, y79.2.2.own, y79.2.2.has', y79.2.2.nodes, y79.2.2.epoch, y79.2.2.init'⟩ : SpartyParty) c87 y91) fun y92 =>
  Let (decide (y92.1 ≠ x90)) fun x94 =>
  Br x94 (
  some (none, 11)) (
  some ((some (⟨y92.2.v, y92.2.leaf, y92.2.signer, y92.2.own, y92.2.has', y92.2.nodes, y92.2.epoch, y92.2.init'⟩ : SpartyParty)), 0)))))))))))))

def F56 (p0 : Int) : Option ((Vector Int 32)) :=
  Let (icon .u8 p0) fun x2 =>
  Let ((vup (vup (Vector.replicate 32 (0 : Int)) (0 : Int) x2) (1 : Int) 11)) fun x3 =>
  some (x3)

def F46_j0 (y2 : ((Option SpartyParty))) (j15 : Bool) : Option (Bool) :=
  Br j15 (
  some (false)) (
  Let ((vup (Vector.replicate 32 (0 : Int)) (0 : Int) 1)) fun x3_16 =>
  Bd (F32 y2 [] [] x3_16) fun y4_16 =>
  Let (decide (y4_16.2.2.2 = 0)) fun x13_16 =>
  Br x13_16 (
  Let ((y4_16.2.1.length : Int)) fun x14_16 =>
  Let (decide (x14_16 = 0)) fun x15_16 =>
  Br x15_16 (
  Mo y4_16.2.2.1 (
  some (false)) fun x16_16 => (
  Bd (F40 y4_16.2.2.1) fun y19_16 =>
  Let (y19_16.Epoch) fun x20_16 =>
  Let (decide (x20_16 = 1)) fun x21_16 =>
  Br x21_16 (
  Bd (F40 y2) fun y22_16 =>
  Let (y22_16.Epoch) fun x23_16 =>
  Let (decide (x23_16 = 0)) fun x24_16 =>
  some (x24_16)) (
  some (false)))) (
  some (false))) (
  some (false)))

def F46 : Option (Bool) :=
  Bd (F56 0) fun y1 =>
  Bd (F28 y1) fun y2 =>
  Mo y2 (
  (F46_j0 y2 true)) fun x4 => (
  Bd (F42 y2) fun y8 =>
  Let (decide (y8 ≠ 0)) fun x9 =>
  Br x9 (
  (F46_j0 y2 true)) (
  Bd (F40 y2) fun y11 =>
  Let (y11.Epoch) fun x12 =>
  Let (decide (x12 ≠ 0)) fun x13 =>
  (F46_j0 y2 x13)))

def F5 (p0 : ByteArray) : Option (Bool) :=
  Let ((p0.size : Int)) fun x1 =>
  Let (decide (100 < x1)) fun x2 =>
  Br x2 (
  some (true)) (
  Bd (F32 none [] [] (Vector.replicate 32 (0 : Int))) fun y5 =>
  Bd (F41 none (⟨(0 : Int), (0 : Int), ([] : (List SOp)), ([] : (List SVote)), (0 : Int), (Vector.replicate 3 (0 : Int)), ([] : (List (List Int))), (Vector.replicate 32 (0 : Int)), SSig.zero⟩ : SCommit)) fun y14 =>
  Bd (F40 none) fun y16 =>
  Let (decide (y16 = SView.zero)) fun x17 =>
  Br x17 (
  Bd (F42 none) fun y18 =>
  Let (decide (y18 = 0)) fun x19 =>
  Br x19 (
  Bd (F43 none) fun y20 =>
  Mo y20 (
  Bd (F44 none p0) fun y24 =>
  Let (decide (y24 = (Vector.replicate 32 (0 : Int)))) fun x25 =>
  Br x25 (
  Bd (F45 none) fun y26 =>
  Mo y26 (
  Let ((y5.2.1.length : Int)) fun x31 =>
  Let (decide (x31 = 0)) fun x32 =>
  Br x32 (
  Mo y5.2.2.1 (
  Mo y14.1 (
  Let (decide (y5.2.2.2 = 13)) fun x37 =>
  Br x37 (
  Let (decide (y14.2 = 13)) fun x38 =>
  Br x38 (
  Bd (F46) fun y39 =>
  some (y39)) (
  some (false))) (
  some (false))) fun x35 => (
  some (false))) fun x33 => (
  some (false))) (
  some (false))) fun x29 => (
  some (false))) (
  some (false))) fun x22 => (
  some (false))) (
  some (false))) (
  some (false)))
end Go.Proofs.YtbhbpfdjlabamaaGreat
