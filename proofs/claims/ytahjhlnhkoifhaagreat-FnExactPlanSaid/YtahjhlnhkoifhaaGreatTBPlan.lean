/- The table of the functions of FnExactPlan, callees first, and what it is worth: printed by a program (tb.py). -/
import Derived.Test.YtahjhlnhkoifhaaGreatCKPlan0
import Derived.Test.YtahjhlnhkoifhaaGreatCKPlan1
import Derived.Test.YtahjhlnhkoifhaaGreatCKPlan2
import Derived.Test.YtahjhlnhkoifhaaGreatZX8
import Derived.Test.YtahjhlnhkoifhaaGreatZY
import Derived.KernelRfl
set_option maxRecDepth 100000
namespace Go.Proofs.YtahjhlnhkoifhaaGreat.Plan
open Go Go.Lev
noncomputable def prims : Sig := fun f a o =>
  if f = 104 then cloneF 5 64 a o else
  if f = 105 then cloneF 3 24 a o else
  if f = 106 then cloneF 1 8 a o else
  if f = 107 then cloneF 4 32 a o else
  if f = 81 then cloneF 3 24 a o else
  none
def T : Tab := [(3, 111, c3), (18, 110, c18), (65, 109, c65), (64, 108, c64), (63, 107, c63), (62, 106, c62), (113, 105, c113), (16, 104, c16), (61, 103, c61), (60, 102, c60), (17, 101, c17), (59, 100, c59), (112, 99, c112), (111, 98, c111), (14, 97, c14), (58, 96, c58), (110, 95, c110), (57, 94, c57), (109, 93, c109), (15, 92, c15), (56, 91, c56), (108, 90, c108), (150, 89, c150), (167, 88, c167), (149, 87, c149), (55, 86, c55), (54, 85, c54), (13, 84, c13), (53, 83, c53), (49, 82, c49), (102, 81, c102), (148, 80, c148), (101, 79, c101), (147, 78, c147), (98, 77, c98), (146, 76, c146), (50, 75, c50), (103, 74, c103), (96, 73, c96), (145, 72, c145), (166, 71, c166), (142, 70, c142), (165, 69, c165), (141, 68, c141), (140, 67, c140), (139, 66, c139), (163, 65, c163), (138, 64, c138), (162, 63, c162), (95, 62, c95), (137, 61, c137), (161, 60, c161), (160, 59, c160), (94, 58, c94), (93, 57, c93), (92, 56, c92), (136, 55, c136), (91, 54, c91), (10, 53, c10), (43, 52, c43), (41, 51, c41), (87, 50, c87), (86, 49, c86), (133, 48, c133), (132, 47, c132), (85, 46, c85), (131, 45, c131), (130, 44, c130), (158, 43, c158), (157, 42, c157), (156, 41, c156), (155, 40, c155), (171, 39, c171), (84, 38, c84), (129, 37, c129), (154, 36, c154), (170, 35, c170), (153, 34, c153), (169, 33, c169), (173, 32, c173), (128, 31, c128), (127, 30, c127), (42, 29, c42), (11, 28, c11), (48, 27, c48), (90, 26, c90), (47, 25, c47), (89, 24, c89), (12, 23, c12), (46, 22, c46), (88, 21, c88), (135, 20, c135), (159, 19, c159), (134, 18, c134), (45, 17, c45), (44, 16, c44), (9, 15, c9), (40, 14, c40), (39, 13, c39), (38, 12, c38), (37, 11, c37), (83, 10, c83), (126, 9, c126), (51, 8, c51), (99, 7, c99), (100, 6, c100), (97, 5, c97), (52, 4, c52), (143, 3, c143), (144, 2, c144), (172, 1, c172), (164, 0, c164)]
/-- What a function of the program answers. -/
noncomputable def L : Sig := lev T prims
noncomputable def LL (n : Nat) : Sig := lvl T prims n
theorem t164 : Lev.look T 164 = some (0, c164) := rfl
theorem e164 (a : List LV) (o : Heap) : L 164 a o = runF (LL 0) c164 a o := lev_eq t164 a o
theorem l164 {n : Nat} (h : 0 < n) : LL n 164 = L 164 := lvl_lev t164 h
theorem t172 : Lev.look T 172 = some (1, c172) := rfl
theorem e172 (a : List LV) (o : Heap) : L 172 a o = runF (LL 1) c172 a o := lev_eq t172 a o
theorem l172 {n : Nat} (h : 1 < n) : LL n 172 = L 172 := lvl_lev t172 h
theorem t144 : Lev.look T 144 = some (2, c144) := rfl
theorem e144 (a : List LV) (o : Heap) : L 144 a o = runF (LL 2) c144 a o := lev_eq t144 a o
theorem l144 {n : Nat} (h : 2 < n) : LL n 144 = L 144 := lvl_lev t144 h
theorem t143 : Lev.look T 143 = some (3, c143) := rfl
theorem e143 (a : List LV) (o : Heap) : L 143 a o = runF (LL 3) c143 a o := lev_eq t143 a o
theorem l143 {n : Nat} (h : 3 < n) : LL n 143 = L 143 := lvl_lev t143 h
theorem t52 : Lev.look T 52 = some (4, c52) := rfl
theorem e52 (a : List LV) (o : Heap) : L 52 a o = runF (LL 4) c52 a o := lev_eq t52 a o
theorem l52 {n : Nat} (h : 4 < n) : LL n 52 = L 52 := lvl_lev t52 h
theorem t97 : Lev.look T 97 = some (5, c97) := rfl
theorem e97 (a : List LV) (o : Heap) : L 97 a o = runF (LL 5) c97 a o := lev_eq t97 a o
theorem l97 {n : Nat} (h : 5 < n) : LL n 97 = L 97 := lvl_lev t97 h
theorem t100 : Lev.look T 100 = some (6, c100) := rfl
theorem e100 (a : List LV) (o : Heap) : L 100 a o = runF (LL 6) c100 a o := lev_eq t100 a o
theorem l100 {n : Nat} (h : 6 < n) : LL n 100 = L 100 := lvl_lev t100 h
theorem t99 : Lev.look T 99 = some (7, c99) := rfl
theorem e99 (a : List LV) (o : Heap) : L 99 a o = runF (LL 7) c99 a o := lev_eq t99 a o
theorem l99 {n : Nat} (h : 7 < n) : LL n 99 = L 99 := lvl_lev t99 h
theorem t51 : Lev.look T 51 = some (8, c51) := rfl
theorem e51 (a : List LV) (o : Heap) : L 51 a o = runF (LL 8) c51 a o := lev_eq t51 a o
theorem l51 {n : Nat} (h : 8 < n) : LL n 51 = L 51 := lvl_lev t51 h
theorem t126 : Lev.look T 126 = some (9, c126) := rfl
theorem e126 (a : List LV) (o : Heap) : L 126 a o = runF (LL 9) c126 a o := lev_eq t126 a o
theorem l126 {n : Nat} (h : 9 < n) : LL n 126 = L 126 := lvl_lev t126 h
theorem t83 : Lev.look T 83 = some (10, c83) := rfl
theorem e83 (a : List LV) (o : Heap) : L 83 a o = runF (LL 10) c83 a o := lev_eq t83 a o
theorem l83 {n : Nat} (h : 10 < n) : LL n 83 = L 83 := lvl_lev t83 h
theorem t37 : Lev.look T 37 = some (11, c37) := rfl
theorem e37 (a : List LV) (o : Heap) : L 37 a o = runF (LL 11) c37 a o := lev_eq t37 a o
theorem l37 {n : Nat} (h : 11 < n) : LL n 37 = L 37 := lvl_lev t37 h
theorem t38 : Lev.look T 38 = some (12, c38) := rfl
theorem e38 (a : List LV) (o : Heap) : L 38 a o = runF (LL 12) c38 a o := lev_eq t38 a o
theorem l38 {n : Nat} (h : 12 < n) : LL n 38 = L 38 := lvl_lev t38 h
theorem t39 : Lev.look T 39 = some (13, c39) := rfl
theorem e39 (a : List LV) (o : Heap) : L 39 a o = runF (LL 13) c39 a o := lev_eq t39 a o
theorem l39 {n : Nat} (h : 13 < n) : LL n 39 = L 39 := lvl_lev t39 h
theorem t40 : Lev.look T 40 = some (14, c40) := rfl
theorem e40 (a : List LV) (o : Heap) : L 40 a o = runF (LL 14) c40 a o := lev_eq t40 a o
theorem l40 {n : Nat} (h : 14 < n) : LL n 40 = L 40 := lvl_lev t40 h
theorem t9 : Lev.look T 9 = some (15, c9) := rfl
theorem e9 (a : List LV) (o : Heap) : L 9 a o = runF (LL 15) c9 a o := lev_eq t9 a o
theorem l9 {n : Nat} (h : 15 < n) : LL n 9 = L 9 := lvl_lev t9 h
theorem t44 : Lev.look T 44 = some (16, c44) := rfl
theorem e44 (a : List LV) (o : Heap) : L 44 a o = runF (LL 16) c44 a o := lev_eq t44 a o
theorem l44 {n : Nat} (h : 16 < n) : LL n 44 = L 44 := lvl_lev t44 h
theorem t45 : Lev.look T 45 = some (17, c45) := rfl
theorem e45 (a : List LV) (o : Heap) : L 45 a o = runF (LL 17) c45 a o := lev_eq t45 a o
theorem l45 {n : Nat} (h : 17 < n) : LL n 45 = L 45 := lvl_lev t45 h
theorem t134 : Lev.look T 134 = some (18, c134) := rfl
theorem e134 (a : List LV) (o : Heap) : L 134 a o = runF (LL 18) c134 a o := lev_eq t134 a o
theorem l134 {n : Nat} (h : 18 < n) : LL n 134 = L 134 := lvl_lev t134 h
theorem t159 : Lev.look T 159 = some (19, c159) := rfl
theorem e159 (a : List LV) (o : Heap) : L 159 a o = runF (LL 19) c159 a o := lev_eq t159 a o
theorem l159 {n : Nat} (h : 19 < n) : LL n 159 = L 159 := lvl_lev t159 h
theorem t135 : Lev.look T 135 = some (20, c135) := rfl
theorem e135 (a : List LV) (o : Heap) : L 135 a o = runF (LL 20) c135 a o := lev_eq t135 a o
theorem l135 {n : Nat} (h : 20 < n) : LL n 135 = L 135 := lvl_lev t135 h
theorem t88 : Lev.look T 88 = some (21, c88) := rfl
theorem e88 (a : List LV) (o : Heap) : L 88 a o = runF (LL 21) c88 a o := lev_eq t88 a o
theorem l88 {n : Nat} (h : 21 < n) : LL n 88 = L 88 := lvl_lev t88 h
theorem t46 : Lev.look T 46 = some (22, c46) := rfl
theorem e46 (a : List LV) (o : Heap) : L 46 a o = runF (LL 22) c46 a o := lev_eq t46 a o
theorem l46 {n : Nat} (h : 22 < n) : LL n 46 = L 46 := lvl_lev t46 h
theorem t12 : Lev.look T 12 = some (23, c12) := rfl
theorem e12 (a : List LV) (o : Heap) : L 12 a o = runF (LL 23) c12 a o := lev_eq t12 a o
theorem l12 {n : Nat} (h : 23 < n) : LL n 12 = L 12 := lvl_lev t12 h
theorem t89 : Lev.look T 89 = some (24, c89) := rfl
theorem e89 (a : List LV) (o : Heap) : L 89 a o = runF (LL 24) c89 a o := lev_eq t89 a o
theorem l89 {n : Nat} (h : 24 < n) : LL n 89 = L 89 := lvl_lev t89 h
theorem t47 : Lev.look T 47 = some (25, c47) := rfl
theorem e47 (a : List LV) (o : Heap) : L 47 a o = runF (LL 25) c47 a o := lev_eq t47 a o
theorem l47 {n : Nat} (h : 25 < n) : LL n 47 = L 47 := lvl_lev t47 h
theorem t90 : Lev.look T 90 = some (26, c90) := rfl
theorem e90 (a : List LV) (o : Heap) : L 90 a o = runF (LL 26) c90 a o := lev_eq t90 a o
theorem l90 {n : Nat} (h : 26 < n) : LL n 90 = L 90 := lvl_lev t90 h
theorem t48 : Lev.look T 48 = some (27, c48) := rfl
theorem e48 (a : List LV) (o : Heap) : L 48 a o = runF (LL 27) c48 a o := lev_eq t48 a o
theorem l48 {n : Nat} (h : 27 < n) : LL n 48 = L 48 := lvl_lev t48 h
theorem t11 : Lev.look T 11 = some (28, c11) := rfl
theorem e11 (a : List LV) (o : Heap) : L 11 a o = runF (LL 28) c11 a o := lev_eq t11 a o
theorem l11 {n : Nat} (h : 28 < n) : LL n 11 = L 11 := lvl_lev t11 h
theorem t42 : Lev.look T 42 = some (29, c42) := rfl
theorem e42 (a : List LV) (o : Heap) : L 42 a o = runF (LL 29) c42 a o := lev_eq t42 a o
theorem l42 {n : Nat} (h : 29 < n) : LL n 42 = L 42 := lvl_lev t42 h
theorem t127 : Lev.look T 127 = some (30, c127) := rfl
theorem e127 (a : List LV) (o : Heap) : L 127 a o = runF (LL 30) c127 a o := lev_eq t127 a o
theorem l127 {n : Nat} (h : 30 < n) : LL n 127 = L 127 := lvl_lev t127 h
theorem t128 : Lev.look T 128 = some (31, c128) := rfl
theorem e128 (a : List LV) (o : Heap) : L 128 a o = runF (LL 31) c128 a o := lev_eq t128 a o
theorem l128 {n : Nat} (h : 31 < n) : LL n 128 = L 128 := lvl_lev t128 h
theorem t173 : Lev.look T 173 = some (32, c173) := rfl
theorem e173 (a : List LV) (o : Heap) : L 173 a o = runF (LL 32) c173 a o := lev_eq t173 a o
theorem l173 {n : Nat} (h : 32 < n) : LL n 173 = L 173 := lvl_lev t173 h
theorem t169 : Lev.look T 169 = some (33, c169) := rfl
theorem e169 (a : List LV) (o : Heap) : L 169 a o = runF (LL 33) c169 a o := lev_eq t169 a o
theorem l169 {n : Nat} (h : 33 < n) : LL n 169 = L 169 := lvl_lev t169 h
theorem t153 : Lev.look T 153 = some (34, c153) := rfl
theorem e153 (a : List LV) (o : Heap) : L 153 a o = runF (LL 34) c153 a o := lev_eq t153 a o
theorem l153 {n : Nat} (h : 34 < n) : LL n 153 = L 153 := lvl_lev t153 h
theorem t170 : Lev.look T 170 = some (35, c170) := rfl
theorem e170 (a : List LV) (o : Heap) : L 170 a o = runF (LL 35) c170 a o := lev_eq t170 a o
theorem l170 {n : Nat} (h : 35 < n) : LL n 170 = L 170 := lvl_lev t170 h
theorem t154 : Lev.look T 154 = some (36, c154) := rfl
theorem e154 (a : List LV) (o : Heap) : L 154 a o = runF (LL 36) c154 a o := lev_eq t154 a o
theorem l154 {n : Nat} (h : 36 < n) : LL n 154 = L 154 := lvl_lev t154 h
theorem t129 : Lev.look T 129 = some (37, c129) := rfl
theorem e129 (a : List LV) (o : Heap) : L 129 a o = runF (LL 37) c129 a o := lev_eq t129 a o
theorem l129 {n : Nat} (h : 37 < n) : LL n 129 = L 129 := lvl_lev t129 h
theorem t84 : Lev.look T 84 = some (38, c84) := rfl
theorem e84 (a : List LV) (o : Heap) : L 84 a o = runF (LL 38) c84 a o := lev_eq t84 a o
theorem l84 {n : Nat} (h : 38 < n) : LL n 84 = L 84 := lvl_lev t84 h
theorem t171 : Lev.look T 171 = some (39, c171) := rfl
theorem e171 (a : List LV) (o : Heap) : L 171 a o = runF (LL 39) c171 a o := lev_eq t171 a o
theorem l171 {n : Nat} (h : 39 < n) : LL n 171 = L 171 := lvl_lev t171 h
theorem t155 : Lev.look T 155 = some (40, c155) := rfl
theorem e155 (a : List LV) (o : Heap) : L 155 a o = runF (LL 40) c155 a o := lev_eq t155 a o
theorem l155 {n : Nat} (h : 40 < n) : LL n 155 = L 155 := lvl_lev t155 h
theorem t156 : Lev.look T 156 = some (41, c156) := rfl
theorem e156 (a : List LV) (o : Heap) : L 156 a o = runF (LL 41) c156 a o := lev_eq t156 a o
theorem l156 {n : Nat} (h : 41 < n) : LL n 156 = L 156 := lvl_lev t156 h
theorem t157 : Lev.look T 157 = some (42, c157) := rfl
theorem e157 (a : List LV) (o : Heap) : L 157 a o = runF (LL 42) c157 a o := lev_eq t157 a o
theorem l157 {n : Nat} (h : 42 < n) : LL n 157 = L 157 := lvl_lev t157 h
theorem t158 : Lev.look T 158 = some (43, c158) := rfl
theorem e158 (a : List LV) (o : Heap) : L 158 a o = runF (LL 43) c158 a o := lev_eq t158 a o
theorem l158 {n : Nat} (h : 43 < n) : LL n 158 = L 158 := lvl_lev t158 h
theorem t130 : Lev.look T 130 = some (44, c130) := rfl
theorem e130 (a : List LV) (o : Heap) : L 130 a o = runF (LL 44) c130 a o := lev_eq t130 a o
theorem l130 {n : Nat} (h : 44 < n) : LL n 130 = L 130 := lvl_lev t130 h
theorem t131 : Lev.look T 131 = some (45, c131) := rfl
theorem e131 (a : List LV) (o : Heap) : L 131 a o = runF (LL 45) c131 a o := lev_eq t131 a o
theorem l131 {n : Nat} (h : 45 < n) : LL n 131 = L 131 := lvl_lev t131 h
theorem t85 : Lev.look T 85 = some (46, c85) := rfl
theorem e85 (a : List LV) (o : Heap) : L 85 a o = runF (LL 46) c85 a o := lev_eq t85 a o
theorem l85 {n : Nat} (h : 46 < n) : LL n 85 = L 85 := lvl_lev t85 h
theorem t132 : Lev.look T 132 = some (47, c132) := rfl
theorem e132 (a : List LV) (o : Heap) : L 132 a o = runF (LL 47) c132 a o := lev_eq t132 a o
theorem l132 {n : Nat} (h : 47 < n) : LL n 132 = L 132 := lvl_lev t132 h
theorem t133 : Lev.look T 133 = some (48, c133) := rfl
theorem e133 (a : List LV) (o : Heap) : L 133 a o = runF (LL 48) c133 a o := lev_eq t133 a o
theorem l133 {n : Nat} (h : 48 < n) : LL n 133 = L 133 := lvl_lev t133 h
theorem t86 : Lev.look T 86 = some (49, c86) := rfl
theorem e86 (a : List LV) (o : Heap) : L 86 a o = runF (LL 49) c86 a o := lev_eq t86 a o
theorem l86 {n : Nat} (h : 49 < n) : LL n 86 = L 86 := lvl_lev t86 h
theorem t87 : Lev.look T 87 = some (50, c87) := rfl
theorem e87 (a : List LV) (o : Heap) : L 87 a o = runF (LL 50) c87 a o := lev_eq t87 a o
theorem l87 {n : Nat} (h : 50 < n) : LL n 87 = L 87 := lvl_lev t87 h
theorem t41 : Lev.look T 41 = some (51, c41) := rfl
theorem e41 (a : List LV) (o : Heap) : L 41 a o = runF (LL 51) c41 a o := lev_eq t41 a o
theorem l41 {n : Nat} (h : 51 < n) : LL n 41 = L 41 := lvl_lev t41 h
theorem t43 : Lev.look T 43 = some (52, c43) := rfl
theorem e43 (a : List LV) (o : Heap) : L 43 a o = runF (LL 52) c43 a o := lev_eq t43 a o
theorem l43 {n : Nat} (h : 52 < n) : LL n 43 = L 43 := lvl_lev t43 h
theorem t10 : Lev.look T 10 = some (53, c10) := rfl
theorem e10 (a : List LV) (o : Heap) : L 10 a o = runF (LL 53) c10 a o := lev_eq t10 a o
theorem l10 {n : Nat} (h : 53 < n) : LL n 10 = L 10 := lvl_lev t10 h
theorem t91 : Lev.look T 91 = some (54, c91) := rfl
theorem e91 (a : List LV) (o : Heap) : L 91 a o = runF (LL 54) c91 a o := lev_eq t91 a o
theorem l91 {n : Nat} (h : 54 < n) : LL n 91 = L 91 := lvl_lev t91 h
theorem t136 : Lev.look T 136 = some (55, c136) := rfl
theorem e136 (a : List LV) (o : Heap) : L 136 a o = runF (LL 55) c136 a o := lev_eq t136 a o
theorem l136 {n : Nat} (h : 55 < n) : LL n 136 = L 136 := lvl_lev t136 h
theorem t92 : Lev.look T 92 = some (56, c92) := rfl
theorem e92 (a : List LV) (o : Heap) : L 92 a o = runF (LL 56) c92 a o := lev_eq t92 a o
theorem l92 {n : Nat} (h : 56 < n) : LL n 92 = L 92 := lvl_lev t92 h
theorem t93 : Lev.look T 93 = some (57, c93) := rfl
theorem e93 (a : List LV) (o : Heap) : L 93 a o = runF (LL 57) c93 a o := lev_eq t93 a o
theorem l93 {n : Nat} (h : 57 < n) : LL n 93 = L 93 := lvl_lev t93 h
theorem t94 : Lev.look T 94 = some (58, c94) := rfl
theorem e94 (a : List LV) (o : Heap) : L 94 a o = runF (LL 58) c94 a o := lev_eq t94 a o
theorem l94 {n : Nat} (h : 58 < n) : LL n 94 = L 94 := lvl_lev t94 h
theorem t160 : Lev.look T 160 = some (59, c160) := rfl
theorem e160 (a : List LV) (o : Heap) : L 160 a o = runF (LL 59) c160 a o := lev_eq t160 a o
theorem l160 {n : Nat} (h : 59 < n) : LL n 160 = L 160 := lvl_lev t160 h
theorem t161 : Lev.look T 161 = some (60, c161) := rfl
theorem e161 (a : List LV) (o : Heap) : L 161 a o = runF (LL 60) c161 a o := lev_eq t161 a o
theorem l161 {n : Nat} (h : 60 < n) : LL n 161 = L 161 := lvl_lev t161 h
theorem t137 : Lev.look T 137 = some (61, c137) := rfl
theorem e137 (a : List LV) (o : Heap) : L 137 a o = runF (LL 61) c137 a o := lev_eq t137 a o
theorem l137 {n : Nat} (h : 61 < n) : LL n 137 = L 137 := lvl_lev t137 h
theorem t95 : Lev.look T 95 = some (62, c95) := rfl
theorem e95 (a : List LV) (o : Heap) : L 95 a o = runF (LL 62) c95 a o := lev_eq t95 a o
theorem l95 {n : Nat} (h : 62 < n) : LL n 95 = L 95 := lvl_lev t95 h
theorem t162 : Lev.look T 162 = some (63, c162) := rfl
theorem e162 (a : List LV) (o : Heap) : L 162 a o = runF (LL 63) c162 a o := lev_eq t162 a o
theorem l162 {n : Nat} (h : 63 < n) : LL n 162 = L 162 := lvl_lev t162 h
theorem t138 : Lev.look T 138 = some (64, c138) := rfl
theorem e138 (a : List LV) (o : Heap) : L 138 a o = runF (LL 64) c138 a o := lev_eq t138 a o
theorem l138 {n : Nat} (h : 64 < n) : LL n 138 = L 138 := lvl_lev t138 h
theorem t163 : Lev.look T 163 = some (65, c163) := rfl
theorem e163 (a : List LV) (o : Heap) : L 163 a o = runF (LL 65) c163 a o := lev_eq t163 a o
theorem l163 {n : Nat} (h : 65 < n) : LL n 163 = L 163 := lvl_lev t163 h
theorem t139 : Lev.look T 139 = some (66, c139) := rfl
theorem e139 (a : List LV) (o : Heap) : L 139 a o = runF (LL 66) c139 a o := lev_eq t139 a o
theorem l139 {n : Nat} (h : 66 < n) : LL n 139 = L 139 := lvl_lev t139 h
theorem t140 : Lev.look T 140 = some (67, c140) := rfl
theorem e140 (a : List LV) (o : Heap) : L 140 a o = runF (LL 67) c140 a o := lev_eq t140 a o
theorem l140 {n : Nat} (h : 67 < n) : LL n 140 = L 140 := lvl_lev t140 h
theorem t141 : Lev.look T 141 = some (68, c141) := rfl
theorem e141 (a : List LV) (o : Heap) : L 141 a o = runF (LL 68) c141 a o := lev_eq t141 a o
theorem l141 {n : Nat} (h : 68 < n) : LL n 141 = L 141 := lvl_lev t141 h
theorem t165 : Lev.look T 165 = some (69, c165) := rfl
theorem e165 (a : List LV) (o : Heap) : L 165 a o = runF (LL 69) c165 a o := lev_eq t165 a o
theorem l165 {n : Nat} (h : 69 < n) : LL n 165 = L 165 := lvl_lev t165 h
theorem t142 : Lev.look T 142 = some (70, c142) := rfl
theorem e142 (a : List LV) (o : Heap) : L 142 a o = runF (LL 70) c142 a o := lev_eq t142 a o
theorem l142 {n : Nat} (h : 70 < n) : LL n 142 = L 142 := lvl_lev t142 h
theorem t166 : Lev.look T 166 = some (71, c166) := rfl
theorem e166 (a : List LV) (o : Heap) : L 166 a o = runF (LL 71) c166 a o := lev_eq t166 a o
theorem l166 {n : Nat} (h : 71 < n) : LL n 166 = L 166 := lvl_lev t166 h
theorem t145 : Lev.look T 145 = some (72, c145) := rfl
theorem e145 (a : List LV) (o : Heap) : L 145 a o = runF (LL 72) c145 a o := lev_eq t145 a o
theorem l145 {n : Nat} (h : 72 < n) : LL n 145 = L 145 := lvl_lev t145 h
theorem t96 : Lev.look T 96 = some (73, c96) := rfl
theorem e96 (a : List LV) (o : Heap) : L 96 a o = runF (LL 73) c96 a o := lev_eq t96 a o
theorem l96 {n : Nat} (h : 73 < n) : LL n 96 = L 96 := lvl_lev t96 h
theorem t103 : Lev.look T 103 = some (74, c103) := rfl
theorem e103 (a : List LV) (o : Heap) : L 103 a o = runF (LL 74) c103 a o := lev_eq t103 a o
theorem l103 {n : Nat} (h : 74 < n) : LL n 103 = L 103 := lvl_lev t103 h
theorem t50 : Lev.look T 50 = some (75, c50) := rfl
theorem e50 (a : List LV) (o : Heap) : L 50 a o = runF (LL 75) c50 a o := lev_eq t50 a o
theorem l50 {n : Nat} (h : 75 < n) : LL n 50 = L 50 := lvl_lev t50 h
theorem t146 : Lev.look T 146 = some (76, c146) := rfl
theorem e146 (a : List LV) (o : Heap) : L 146 a o = runF (LL 76) c146 a o := lev_eq t146 a o
theorem l146 {n : Nat} (h : 76 < n) : LL n 146 = L 146 := lvl_lev t146 h
theorem t98 : Lev.look T 98 = some (77, c98) := rfl
theorem e98 (a : List LV) (o : Heap) : L 98 a o = runF (LL 77) c98 a o := lev_eq t98 a o
theorem l98 {n : Nat} (h : 77 < n) : LL n 98 = L 98 := lvl_lev t98 h
theorem t147 : Lev.look T 147 = some (78, c147) := rfl
theorem e147 (a : List LV) (o : Heap) : L 147 a o = runF (LL 78) c147 a o := lev_eq t147 a o
theorem l147 {n : Nat} (h : 78 < n) : LL n 147 = L 147 := lvl_lev t147 h
theorem t101 : Lev.look T 101 = some (79, c101) := rfl
theorem e101 (a : List LV) (o : Heap) : L 101 a o = runF (LL 79) c101 a o := lev_eq t101 a o
theorem l101 {n : Nat} (h : 79 < n) : LL n 101 = L 101 := lvl_lev t101 h
theorem t148 : Lev.look T 148 = some (80, c148) := rfl
theorem e148 (a : List LV) (o : Heap) : L 148 a o = runF (LL 80) c148 a o := lev_eq t148 a o
theorem l148 {n : Nat} (h : 80 < n) : LL n 148 = L 148 := lvl_lev t148 h
theorem t102 : Lev.look T 102 = some (81, c102) := rfl
theorem e102 (a : List LV) (o : Heap) : L 102 a o = runF (LL 81) c102 a o := lev_eq t102 a o
theorem l102 {n : Nat} (h : 81 < n) : LL n 102 = L 102 := lvl_lev t102 h
theorem t49 : Lev.look T 49 = some (82, c49) := rfl
theorem e49 (a : List LV) (o : Heap) : L 49 a o = runF (LL 82) c49 a o := lev_eq t49 a o
theorem l49 {n : Nat} (h : 82 < n) : LL n 49 = L 49 := lvl_lev t49 h
theorem t53 : Lev.look T 53 = some (83, c53) := rfl
theorem e53 (a : List LV) (o : Heap) : L 53 a o = runF (LL 83) c53 a o := lev_eq t53 a o
theorem l53 {n : Nat} (h : 83 < n) : LL n 53 = L 53 := lvl_lev t53 h
theorem t13 : Lev.look T 13 = some (84, c13) := rfl
theorem e13 (a : List LV) (o : Heap) : L 13 a o = runF (LL 84) c13 a o := lev_eq t13 a o
theorem l13 {n : Nat} (h : 84 < n) : LL n 13 = L 13 := lvl_lev t13 h
theorem t54 : Lev.look T 54 = some (85, c54) := rfl
theorem e54 (a : List LV) (o : Heap) : L 54 a o = runF (LL 85) c54 a o := lev_eq t54 a o
theorem l54 {n : Nat} (h : 85 < n) : LL n 54 = L 54 := lvl_lev t54 h
theorem t55 : Lev.look T 55 = some (86, c55) := rfl
theorem e55 (a : List LV) (o : Heap) : L 55 a o = runF (LL 86) c55 a o := lev_eq t55 a o
theorem l55 {n : Nat} (h : 86 < n) : LL n 55 = L 55 := lvl_lev t55 h
theorem t149 : Lev.look T 149 = some (87, c149) := rfl
theorem e149 (a : List LV) (o : Heap) : L 149 a o = runF (LL 87) c149 a o := lev_eq t149 a o
theorem l149 {n : Nat} (h : 87 < n) : LL n 149 = L 149 := lvl_lev t149 h
theorem t167 : Lev.look T 167 = some (88, c167) := rfl
theorem e167 (a : List LV) (o : Heap) : L 167 a o = runF (LL 88) c167 a o := lev_eq t167 a o
theorem l167 {n : Nat} (h : 88 < n) : LL n 167 = L 167 := lvl_lev t167 h
theorem t150 : Lev.look T 150 = some (89, c150) := rfl
theorem e150 (a : List LV) (o : Heap) : L 150 a o = runF (LL 89) c150 a o := lev_eq t150 a o
theorem l150 {n : Nat} (h : 89 < n) : LL n 150 = L 150 := lvl_lev t150 h
theorem t108 : Lev.look T 108 = some (90, c108) := rfl
theorem e108 (a : List LV) (o : Heap) : L 108 a o = runF (LL 90) c108 a o := lev_eq t108 a o
theorem l108 {n : Nat} (h : 90 < n) : LL n 108 = L 108 := lvl_lev t108 h
theorem t56 : Lev.look T 56 = some (91, c56) := rfl
theorem e56 (a : List LV) (o : Heap) : L 56 a o = runF (LL 91) c56 a o := lev_eq t56 a o
theorem l56 {n : Nat} (h : 91 < n) : LL n 56 = L 56 := lvl_lev t56 h
theorem t15 : Lev.look T 15 = some (92, c15) := rfl
theorem e15 (a : List LV) (o : Heap) : L 15 a o = runF (LL 92) c15 a o := lev_eq t15 a o
theorem l15 {n : Nat} (h : 92 < n) : LL n 15 = L 15 := lvl_lev t15 h
theorem t109 : Lev.look T 109 = some (93, c109) := rfl
theorem e109 (a : List LV) (o : Heap) : L 109 a o = runF (LL 93) c109 a o := lev_eq t109 a o
theorem l109 {n : Nat} (h : 93 < n) : LL n 109 = L 109 := lvl_lev t109 h
theorem t57 : Lev.look T 57 = some (94, c57) := rfl
theorem e57 (a : List LV) (o : Heap) : L 57 a o = runF (LL 94) c57 a o := lev_eq t57 a o
theorem l57 {n : Nat} (h : 94 < n) : LL n 57 = L 57 := lvl_lev t57 h
theorem t110 : Lev.look T 110 = some (95, c110) := rfl
theorem e110 (a : List LV) (o : Heap) : L 110 a o = runF (LL 95) c110 a o := lev_eq t110 a o
theorem l110 {n : Nat} (h : 95 < n) : LL n 110 = L 110 := lvl_lev t110 h
theorem t58 : Lev.look T 58 = some (96, c58) := rfl
theorem e58 (a : List LV) (o : Heap) : L 58 a o = runF (LL 96) c58 a o := lev_eq t58 a o
theorem l58 {n : Nat} (h : 96 < n) : LL n 58 = L 58 := lvl_lev t58 h
theorem t14 : Lev.look T 14 = some (97, c14) := rfl
theorem e14 (a : List LV) (o : Heap) : L 14 a o = runF (LL 97) c14 a o := lev_eq t14 a o
theorem l14 {n : Nat} (h : 97 < n) : LL n 14 = L 14 := lvl_lev t14 h
theorem t111 : Lev.look T 111 = some (98, c111) := rfl
theorem e111 (a : List LV) (o : Heap) : L 111 a o = runF (LL 98) c111 a o := lev_eq t111 a o
theorem l111 {n : Nat} (h : 98 < n) : LL n 111 = L 111 := lvl_lev t111 h
theorem t112 : Lev.look T 112 = some (99, c112) := rfl
theorem e112 (a : List LV) (o : Heap) : L 112 a o = runF (LL 99) c112 a o := lev_eq t112 a o
theorem l112 {n : Nat} (h : 99 < n) : LL n 112 = L 112 := lvl_lev t112 h
theorem t59 : Lev.look T 59 = some (100, c59) := rfl
theorem e59 (a : List LV) (o : Heap) : L 59 a o = runF (LL 100) c59 a o := lev_eq t59 a o
theorem l59 {n : Nat} (h : 100 < n) : LL n 59 = L 59 := lvl_lev t59 h
theorem t17 : Lev.look T 17 = some (101, c17) := rfl
theorem e17 (a : List LV) (o : Heap) : L 17 a o = runF (LL 101) c17 a o := lev_eq t17 a o
theorem l17 {n : Nat} (h : 101 < n) : LL n 17 = L 17 := lvl_lev t17 h
theorem t60 : Lev.look T 60 = some (102, c60) := rfl
theorem e60 (a : List LV) (o : Heap) : L 60 a o = runF (LL 102) c60 a o := lev_eq t60 a o
theorem l60 {n : Nat} (h : 102 < n) : LL n 60 = L 60 := lvl_lev t60 h
theorem t61 : Lev.look T 61 = some (103, c61) := rfl
theorem e61 (a : List LV) (o : Heap) : L 61 a o = runF (LL 103) c61 a o := lev_eq t61 a o
theorem l61 {n : Nat} (h : 103 < n) : LL n 61 = L 61 := lvl_lev t61 h
theorem t16 : Lev.look T 16 = some (104, c16) := rfl
theorem e16 (a : List LV) (o : Heap) : L 16 a o = runF (LL 104) c16 a o := lev_eq t16 a o
theorem l16 {n : Nat} (h : 104 < n) : LL n 16 = L 16 := lvl_lev t16 h
theorem t113 : Lev.look T 113 = some (105, c113) := rfl
theorem e113 (a : List LV) (o : Heap) : L 113 a o = runF (LL 105) c113 a o := lev_eq t113 a o
theorem l113 {n : Nat} (h : 105 < n) : LL n 113 = L 113 := lvl_lev t113 h
theorem t62 : Lev.look T 62 = some (106, c62) := rfl
theorem e62 (a : List LV) (o : Heap) : L 62 a o = runF (LL 106) c62 a o := lev_eq t62 a o
theorem l62 {n : Nat} (h : 106 < n) : LL n 62 = L 62 := lvl_lev t62 h
theorem t63 : Lev.look T 63 = some (107, c63) := rfl
theorem e63 (a : List LV) (o : Heap) : L 63 a o = runF (LL 107) c63 a o := lev_eq t63 a o
theorem l63 {n : Nat} (h : 107 < n) : LL n 63 = L 63 := lvl_lev t63 h
theorem t64 : Lev.look T 64 = some (108, c64) := rfl
theorem e64 (a : List LV) (o : Heap) : L 64 a o = runF (LL 108) c64 a o := lev_eq t64 a o
theorem l64 {n : Nat} (h : 108 < n) : LL n 64 = L 64 := lvl_lev t64 h
theorem t65 : Lev.look T 65 = some (109, c65) := rfl
theorem e65 (a : List LV) (o : Heap) : L 65 a o = runF (LL 109) c65 a o := lev_eq t65 a o
theorem l65 {n : Nat} (h : 109 < n) : LL n 65 = L 65 := lvl_lev t65 h
theorem t18 : Lev.look T 18 = some (110, c18) := rfl
theorem e18 (a : List LV) (o : Heap) : L 18 a o = runF (LL 110) c18 a o := lev_eq t18 a o
theorem l18 {n : Nat} (h : 110 < n) : LL n 18 = L 18 := lvl_lev t18 h
theorem t3 : Lev.look T 3 = some (111, c3) := rfl
theorem e3 (a : List LV) (o : Heap) : L 3 a o = runF (LL 111) c3 a o := lev_eq t3 a o
theorem l3 {n : Nat} (h : 111 < n) : LL n 3 = L 3 := lvl_lev t3 h
theorem t104 : Lev.look T 104 = none := rfl
theorem e104 (a : List LV) (o : Heap) : L 104 a o = cloneF 5 64 a o := by
  show lev T prims 104 a o = _
  rw [lev_prim t104]
  simp [prims]
theorem l104 {n : Nat} : LL n 104 = L 104 := by
  show lvl T prims n 104 = lev T prims 104
  rw [lvl_none t104, lev_prim t104]
theorem k104 : chkClone Tryz.prog Tryz.f104 5 64 = true := by kernel_rfl
theorem t105 : Lev.look T 105 = none := rfl
theorem e105 (a : List LV) (o : Heap) : L 105 a o = cloneF 3 24 a o := by
  show lev T prims 105 a o = _
  rw [lev_prim t105]
  simp [prims]
theorem l105 {n : Nat} : LL n 105 = L 105 := by
  show lvl T prims n 105 = lev T prims 105
  rw [lvl_none t105, lev_prim t105]
theorem k105 : chkClone Tryz.prog Tryz.f105 3 24 = true := by kernel_rfl
theorem t106 : Lev.look T 106 = none := rfl
theorem e106 (a : List LV) (o : Heap) : L 106 a o = cloneF 1 8 a o := by
  show lev T prims 106 a o = _
  rw [lev_prim t106]
  simp [prims]
theorem l106 {n : Nat} : LL n 106 = L 106 := by
  show lvl T prims n 106 = lev T prims 106
  rw [lvl_none t106, lev_prim t106]
theorem k106 : chkClone Tryz.prog Tryz.f106 1 8 = true := by kernel_rfl
theorem t107 : Lev.look T 107 = none := rfl
theorem e107 (a : List LV) (o : Heap) : L 107 a o = cloneF 4 32 a o := by
  show lev T prims 107 a o = _
  rw [lev_prim t107]
  simp [prims]
theorem l107 {n : Nat} : LL n 107 = L 107 := by
  show lvl T prims n 107 = lev T prims 107
  rw [lvl_none t107, lev_prim t107]
theorem k107 : chkClone Tryz.prog Tryz.f107 4 32 = true := by kernel_rfl
theorem t81 : Lev.look T 81 = none := rfl
theorem e81 (a : List LV) (o : Heap) : L 81 a o = cloneF 3 24 a o := by
  show lev T prims 81 a o = _
  rw [lev_prim t81]
  simp [prims]
theorem l81 {n : Nat} : LL n 81 = L 81 := by
  show lvl T prims n 81 = lev T prims 81
  rw [lvl_none t81, lev_prim t81]
theorem k81 : chkClone Tryz.prog Tryz.f81 3 24 = true := by kernel_rfl
theorem T_ok : TabOk Tryz.prog T :=
  TabOk.cons Tryz.func3 k3 (TabOk.cons Tryz.func18 k18 (TabOk.cons Tryz.func65 k65 (TabOk.cons Tryz.func64 k64 (TabOk.cons Tryz.func63 k63 (TabOk.cons Tryz.func62 k62 (TabOk.cons Tryz.func113 k113 (TabOk.cons Tryz.func16 k16 (TabOk.cons Tryz.func61 k61 (TabOk.cons Tryz.func60 k60 (TabOk.cons Tryz.func17 k17 (TabOk.cons Tryz.func59 k59 (TabOk.cons Tryz.func112 k112 (TabOk.cons Tryz.func111 k111 (TabOk.cons Tryz.func14 k14 (TabOk.cons Tryz.func58 k58 (TabOk.cons Tryz.func110 k110 (TabOk.cons Tryz.func57 k57 (TabOk.cons Tryz.func109 k109 (TabOk.cons Tryz.func15 k15 (TabOk.cons Tryz.func56 k56 (TabOk.cons Tryz.func108 k108 (TabOk.cons Tryz.func150 k150 (TabOk.cons Tryz.func167 k167 (TabOk.cons Tryz.func149 k149 (TabOk.cons Tryz.func55 k55 (TabOk.cons Tryz.func54 k54 (TabOk.cons Tryz.func13 k13 (TabOk.cons Tryz.func53 k53 (TabOk.cons Tryz.func49 k49 (TabOk.cons Tryz.func102 k102 (TabOk.cons Tryz.func148 k148 (TabOk.cons Tryz.func101 k101 (TabOk.cons Tryz.func147 k147 (TabOk.cons Tryz.func98 k98 (TabOk.cons Tryz.func146 k146 (TabOk.cons Tryz.func50 k50 (TabOk.cons Tryz.func103 k103 (TabOk.cons Tryz.func96 k96 (TabOk.cons Tryz.func145 k145 (TabOk.cons Tryz.func166 k166 (TabOk.cons Tryz.func142 k142 (TabOk.cons Tryz.func165 k165 (TabOk.cons Tryz.func141 k141 (TabOk.cons Tryz.func140 k140 (TabOk.cons Tryz.func139 k139 (TabOk.cons Tryz.func163 k163 (TabOk.cons Tryz.func138 k138 (TabOk.cons Tryz.func162 k162 (TabOk.cons Tryz.func95 k95 (TabOk.cons Tryz.func137 k137 (TabOk.cons Tryz.func161 k161 (TabOk.cons Tryz.func160 k160 (TabOk.cons Tryz.func94 k94 (TabOk.cons Tryz.func93 k93 (TabOk.cons Tryz.func92 k92 (TabOk.cons Tryz.func136 k136 (TabOk.cons Tryz.func91 k91 (TabOk.cons Tryz.func10 k10 (TabOk.cons Tryz.func43 k43 (TabOk.cons Tryz.func41 k41 (TabOk.cons Tryz.func87 k87 (TabOk.cons Tryz.func86 k86 (TabOk.cons Tryz.func133 k133 (TabOk.cons Tryz.func132 k132 (TabOk.cons Tryz.func85 k85 (TabOk.cons Tryz.func131 k131 (TabOk.cons Tryz.func130 k130 (TabOk.cons Tryz.func158 k158 (TabOk.cons Tryz.func157 k157 (TabOk.cons Tryz.func156 k156 (TabOk.cons Tryz.func155 k155 (TabOk.cons Tryz.func171 k171 (TabOk.cons Tryz.func84 k84 (TabOk.cons Tryz.func129 k129 (TabOk.cons Tryz.func154 k154 (TabOk.cons Tryz.func170 k170 (TabOk.cons Tryz.func153 k153 (TabOk.cons Tryz.func169 k169 (TabOk.cons Tryz.func173 k173 (TabOk.cons Tryz.func128 k128 (TabOk.cons Tryz.func127 k127 (TabOk.cons Tryz.func42 k42 (TabOk.cons Tryz.func11 k11 (TabOk.cons Tryz.func48 k48 (TabOk.cons Tryz.func90 k90 (TabOk.cons Tryz.func47 k47 (TabOk.cons Tryz.func89 k89 (TabOk.cons Tryz.func12 k12 (TabOk.cons Tryz.func46 k46 (TabOk.cons Tryz.func88 k88 (TabOk.cons Tryz.func135 k135 (TabOk.cons Tryz.func159 k159 (TabOk.cons Tryz.func134 k134 (TabOk.cons Tryz.func45 k45 (TabOk.cons Tryz.func44 k44 (TabOk.cons Tryz.func9 k9 (TabOk.cons Tryz.func40 k40 (TabOk.cons Tryz.func39 k39 (TabOk.cons Tryz.func38 k38 (TabOk.cons Tryz.func37 k37 (TabOk.cons Tryz.func83 k83 (TabOk.cons Tryz.func126 k126 (TabOk.cons Tryz.func51 k51 (TabOk.cons Tryz.func99 k99 (TabOk.cons Tryz.func100 k100 (TabOk.cons Tryz.func97 k97 (TabOk.cons Tryz.func52 k52 (TabOk.cons Tryz.func143 k143 (TabOk.cons Tryz.func144 k144 (TabOk.cons Tryz.func172 k172 (TabOk.cons Tryz.func164 k164 (TabOk.nil))))))))))))))))))))))))))))))))))))))))))))))))))))))))))))))))))))))))))))))))))))))))))))))))))))))))))))))))
theorem mixed : Tryz.prog.follows .mixedOrders = true := by kernel_rfl
theorem prims_ok : SigOk Tryz.prog prims := by
  intro f a o r h
  unfold prims at h
  split at h
  · rename_i e; subst e; exact clone_snd mixed Tryz.func104 k104 h
  split at h
  · rename_i e; subst e; exact clone_snd mixed Tryz.func105 k105 h
  split at h
  · rename_i e; subst e; exact clone_snd mixed Tryz.func106 k106 h
  split at h
  · rename_i e; subst e; exact clone_snd mixed Tryz.func107 k107 h
  split at h
  · rename_i e; subst e; exact clone_snd mixed Tryz.func81 k81 h
  cases h
theorem L_ok : SigOk Tryz.prog L := lev_ok mixed T_ok prims_ok
end Go.Proofs.YtahjhlnhkoifhaaGreat.Plan
