/- States of the abstract machine's run of the law, written out. No condition. -/
import Derived.Test.YthjoaempffkanaaGreatDoorProg
import Derived.Test.YthjoaempffkanaaGreatDoorAmP
namespace Go.Proofs.YthjoaempffkanaaGreatDoor.Am
open W Go.Proofs

set_option maxRecDepth 100000

/-- What is known of the package variables when the call begins. -/
noncomputable def vars0 : List (Nat × Cells) := []

/-- A piece of the program's code. -/
noncomputable def zz (f : Nat) : List Nat → C := cAt (bodyC Tryz.prog f)

noncomputable def ckS.y0 : List AV := [o, s 1 97, i 2, o, o, e, o, o, o, e, o, o, s 2 355, i 1, i 1, e, o, e, o, o]
open ckS in
noncomputable def ckS.y1 : List AV := [o, s 1 97, i 3, o, o, e, o, o, o, e, o, o, s 2 355, i 1, i 3, e, o, e, o, o]
open ckS in
noncomputable def ckS.y2 : List AV := [o, s 1 98, i 1, o, o, e, o, o, o, e, o, o, s 2 355, i 1, i 6, e, o, e, o, o]
open ckS in
noncomputable def ckS.y3 : List AV := [M, M, s 2 355, i 1, i 1, M, M, i 1, i 1]
open ckS in
noncomputable def ckS.y4 : List AV := [M, M, s 2 355, i 1, i 3, M, M, i 1, i 1]
open ckS in
noncomputable def ckS.y5 : List AV := [M, M, s 2 355, i 1, i 6, M, M, i 1, i 1]
open ckS in
noncomputable def ckS.y6 : List AV := [i 1, o, s 1 97, i 2, o, o, e, o, o, o, e, o, o, s 2 355, i 1, i 1, e, o, e, o, o, o, e, o, N, o, N, o, e, o, o, o, e, o, e, o, o, e, o]
open ckS in
noncomputable def ckS.y7 : List AV := [o, o, e, o, o, o, e, o, o, o, e, o, o, e, o, o, e, o, e, o, o, o, e, o, N, o, N, o, e, o, o, o, e, o, e, o, o, e, o]
open ckS in
noncomputable def ckS.y8 : List AV := [i 1, o, s 1 98, i 1, o, o, e, o, o, o, e, o, o, s 2 355, i 1, i 6, e, o, e, o, o, o, e, o, N, o, N, o, e, o, o, o, e, o, e, o, o, e, o]
open ckS in
noncomputable def ckS.y9 : List AV := [i 100, o, S 40 0 0 3 3 1, N, S 36 0 0 3 3 1, N, o, N]
open ckS in
noncomputable def ckS.y10 : List AV := [P 128, P 4585, m 134, m 135, P 104, m 136, m 137, N]
open ckS in
noncomputable def ckS.y11 : List AV := [o, s 1 97, i 2, S 1968 0 0 1 1 3, i 2, N]
open ckS in
noncomputable def ckS.y12 : List AV := [o, s 1 97, i 3, S 3281 0 0 1 1 3, i 3, N]
open ckS in
noncomputable def ckS.y13 : List AV := [o, s 1 98, i 1, S 4664 0 0 1 1 3, i 4, N]
open ckS in
noncomputable def ckS.y14 : List AV := [i 2, o, e, o, o, o, e, o, o, o, e, o, o, e, o, o, e, o, e, o, o, o, s 1 97, i 3, S 17208 0 0 1 1 3, i 3, N, o, s 1 97, i 3, o, o, e, o, e, o, o, e, o]
open ckS in
noncomputable def ckS.y15 : List AV := [o, s 1 97, i 1, (.sl (q 10022) 0 0 0 0 true 3), i 1, N]
open ckS in
noncomputable def ckS.y16 : List AV := [P 9722, P 11377, m 9728, m 9729, P 104, m 9730, m 9731, N]
open ckS in
noncomputable def ckS.y17 : List AV := [i 2, o, e, o, o, o, e, o, o, o, e, o, o, e, o, o, e, o, e, o, o, o, s 1 97, i 1, (.sl (q 18535) 0 0 0 0 true 3), i 1, N, o, e, o, o, o, e, o, e, o, o, e, o]
open ckS in
noncomputable def ckS.y18 : List AV := [i 2, o, e, o, o, o, e, o, o, o, e, o, o, e, o, o, e, o, e, o, o, o, s 1 97, i 1, (.sl (q 5188) 0 0 0 0 true 3), i 1, N, o, e, o, o, o, e, o, e, o, o, e, o]
open ckS in
noncomputable def ckS.y19 : List AV := [i 2, o, e, o, o, o, e, o, o, o, e, o, o, e, o, o, e, o, e, o, o, o, s 1 97, i 2, S 10167 0 0 1 1 3, i 2, N, o, s 1 97, i 2, o, o, e, o, e, o, o, e, o]
open ckS in
noncomputable def ckS.y20 : List AV := [i 2, o, e, o, o, o, e, o, o, o, e, o, o, e, o, o, e, o, e, o, o, o, s 1 98, i 1, S 11123 0 0 1 1 3, i 4, N, o, s 1 98, i 1, o, o, e, o, e, o, o, e, o]
open ckS in
noncomputable def ckS.y21 : List AV := [i 2, o, e, o, o, o, e, o, o, o, e, o, o, e, o, o, e, o, e, o, o, o, s 1 97, i 3, S 13161 0 0 1 1 3, i 3, N, o, s 1 97, i 3, o, o, e, o, e, o, o, e, o]
open ckS in
noncomputable def ckS.y22 : List AV := [i 2, o, e, o, o, o, e, o, o, o, e, o, o, e, o, o, e, o, e, o, o, o, s 1 97, i 3, S 19291 0 0 1 1 3, i 3, N, o, s 1 97, i 3, o, o, e, o, e, o, o, e, o]
open ckS in
noncomputable def ckS.y23 : List AV := [i 2, o, e, o, o, o, e, o, o, o, e, o, o, e, o, o, e, o, e, o, o, o, s 1 97, i 3, S 22863 0 0 1 1 3, i 3, N, o, s 1 97, i 3, o, o, e, o, e, o, o, e, o]
open ckS in
noncomputable def ckS.y24 : List AV := [i 2, o, e, o, o, o, e, o, o, o, e, o, o, e, o, o, e, o, e, o, o, o, s 1 98, i 1, S 6920 0 0 1 1 3, i 4, N, o, s 1 98, i 1, o, o, e, o, e, o, o, e, o]
open ckS in
noncomputable def ckS.y25 : List AV := [i 1, o, e, o, o, o, e, o, o, o, e, o, o, e, o, o, e, o, e, o, o, o, e, o, N, o, N, o, e, o, o, o, e, o, e, o, o, e, o]
open ckS in
noncomputable def ckS.y26 : List AV := [o, s 1 97, i 2, S 10500 0 0 1 1 3, i 2, N]
open ckS in
noncomputable def ckS.y27 : List AV := [i 1, o, s 1 97, i 3, o, o, e, o, o, o, e, o, o, s 2 355, i 1, i 3, e, o, e, o, o, o, e, o, N, o, N, o, e, o, o, o, e, o, e, o, o, e, o]
open ckS in
noncomputable def ckS.y28 : List AV := [o, s 1 97, i 3, S 10978 0 0 1 1 3, i 3, N]
open ckS in
noncomputable def ckS.y29 : List AV := [o, s 1 98, i 1, S 11456 0 0 1 1 3, i 4, N]
open ckS in
noncomputable def ckS.y30 : List AV := [t, m 11387, m 11388, m 11389, m 11390]
open ckS in
noncomputable def ckS.y31 : List AV := [P 5075, P 5080, m 5081, m 5082, P 104, m 5083, m 5084, N]
open ckS in
noncomputable def ckS.y32 : List AV := [o, s 1 97, i 1, (.sl (q 5321) 0 0 0 0 true 3), i 1, N]
open ckS in
noncomputable def ckS.y33 : List AV := [i 10000, o, S 14970 7 0 156 156 1, S 8348 11 0 233 233 1, N, N, o, S 441 39 0 40 40 3]
open ckS in
noncomputable def ckS.y34 : List AV := [o, s 1 97, i 1, (.sl (q 16585) 0 0 0 0 true 3), i 1, N]
open ckS in
noncomputable def ckS.y35 : List AV := [P 12238, P 12243, m 12244, m 12245, P 104, m 12246, m 12247, N]
open ckS in
noncomputable def ckS.y36 : List AV := [P 16285, P 16290, m 16291, m 16292, P 104, m 16293, m 16294, N]
open ckS in
noncomputable def ckS.y37 : List AV := [P 18368, P 18373, m 18374, m 18375, P 104, m 18376, m 18377, N]
open ckS in
noncomputable def ckS.y38 : List AV := [P 16285, P 17462, m 16291, m 16292, P 104, m 16293, m 16294, N]
open ckS in
noncomputable def ckS.y39 : List AV := [P 21940, P 21945, m 21946, m 21947, P 104, m 21948, m 21949, N]
open ckS in
noncomputable def ckS.y40 : List AV := [P 5075, P 7174, m 5081, m 5082, P 104, m 5083, m 5084, N]
open ckS in
noncomputable def ckS.y41 : List AV := [P 9722, P 9727, m 9728, m 9729, P 104, m 9730, m 9731, N]
open ckS in
noncomputable def ckS.y42 : List AV := [o, s 1 97, i 1, (.sl (q 12538) 0 0 0 0 true 3), i 1, N]
open ckS in
noncomputable def ckS.y43 : List AV := [o, s 1 97, i 1, (.sl (q 18668) 0 0 0 0 true 3), i 1, N]
open ckS in
noncomputable def ckS.y44 : List AV := [o, s 1 97, i 2, S 17063 0 0 1 1 3, i 2, N]
open ckS in
noncomputable def ckS.y45 : List AV := [P 18368, P 19545, m 18374, m 18375, P 104, m 18376, m 18377, N]
open ckS in
noncomputable def ckS.y46 : List AV := [o, s 1 97, i 2, S 5937 0 0 1 1 3, i 2, N]
open ckS in
noncomputable def ckS.y47 : List AV := [i 4, o, e, o, o, o, e, o, o, o, e, o, o, e, o, o, e, o, e, o, o, o, e, o, N, o, N, o, e, o, o, o, e, o, e, o, o, s 1 98, i 1]
open ckS in
noncomputable def ckS.y48 : List AV := [o, s 1 98, i 1, S 7893 0 0 1 1 3, i 4, N, o, s 1 98, i 1, o, S 7895 0 0 1 1 20]
open ckS in
noncomputable def ckS.y49 : List AV := [o, s 1 97, i 3, S 17541 0 0 1 1 3, i 3, N]
open ckS in
noncomputable def ckS.y50 : List AV := [o, s 1 97, i 1, N, i 1, N, o, e, o, o, N]
open ckS in
noncomputable def ckS.y51 : List AV := [o, s 1 97, i 3, S 6553 0 0 1 1 3, i 3, N]
open ckS in
noncomputable def ckS.y52 : List AV := [o, s 1 98, i 1, S 7253 0 0 1 1 3, i 4, N]
open ckS in
noncomputable def ckS.y53 : List AV := [i 10000, o, S 439 15 0 295 295 1, N, N, N, o, S 441 15 0 16 16 3]
open ckS in
noncomputable def ckS.y54 : List AV := [t, m 17472, m 17473, m 17474, m 17475]
open ckS in
noncomputable def ckS.y55 : List AV := [P 12238, P 13893, m 12244, m 12245, P 104, m 12246, m 12247, N]
open ckS in
noncomputable def ckS.y56 : List AV := [P 12238, P 12243, m 12244, m 12245]
open ckS in
noncomputable def ckS.y57 : List AV := [P 18368, P 18373, m 18374, m 18375]
open ckS in
noncomputable def ckS.y58 : List AV := [P 21940, P 21945, m 21946, m 21947]
open ckS in
noncomputable def ckS.y59 : List AV := [i 10000, i 1, S 14970 7 0 156 156 1, S 20452 7 0 156 156 1, N, N, o, S 441 49 0 50 50 3]
open ckS in
noncomputable def ckS.y60 : List AV := [i 10000, i 1, S 439 15 0 295 295 1, S 8348 10 0 221 221 1, N, N, o, S 441 28 0 29 29 3]
open ckS in
noncomputable def ckS.y61 : List AV := [i 10000, i 1, S 439 15 0 295 295 1, S 8348 11 0 233 233 1, N, N, o, S 441 29 0 30 30 3]
open ckS in
noncomputable def ckS.y62 : List AV := [o, s 1 97, i 2, S 13016 0 0 1 1 3, i 2, N]
open ckS in
noncomputable def ckS.y63 : List AV := [o, s 1 97, i 3, S 13494 0 0 1 1 3, i 3, N]
open ckS in
noncomputable def ckS.y64 : List AV := [o, s 1 97, i 2, S 19146 0 0 1 1 3, i 2, N]
open ckS in
noncomputable def ckS.y65 : List AV := [o, s 1 97, i 3, S 19624 0 0 1 1 3, i 3, N]
open ckS in
noncomputable def ckS.y66 : List AV := [o, s 1 97, i 1, (.sl (q 20298) 0 0 0 0 true 3), i 1, N]
open ckS in
noncomputable def ckS.y67 : List AV := [o, s 1 97, i 1, (.sl (q 8162) 0 0 0 0 true 3), i 1, N]
open ckS in
noncomputable def ckS.y68 : List AV := [o, s 1 97, i 1, (.sl (q 8291) 0 0 0 0 true 3), i 1, N]
open ckS in
noncomputable def ckS.y69 : List AV := [t, m 19555, m 19556, m 19557, m 19558]
open ckS in
noncomputable def ckS.f0 : Fr := ⟨3, (v [(0, f), (1, P 1), (2, o), (3, o), (4, o), (5, o), (6, i 1), (7, M), (8, P 18), (9, i 2), (10, M), (11, P 25), (12, i 1), (13, M), (14, P 32), (15, i 1), (16, M), (17, i 1), (18, P 38), (19, o), (20, M), (21, P 102), (22, i 10), (23, (.tup [P 1, o])), (24, (.tup [P 1, o])), (25, P 1), (26, o), (27, (.tup [o, o, o, i 1])), (28, (.tup [o, o, o, i 1])), (29, o), (30, o), (31, o), (32, i 1), (33, (.tup [M, (a [o, o, o, o]), i 2])), (34, P 1), (35, (.tup [M, (a [o, o, o, o]), i 2])), (36, M), (37, (a [o, o, o, o])), (38, i 2), (39, (.tup [M, (a [o, e, o, o, o, o, o]), i 1])), (40, (a [o, s 1 97])), (41, (.tup [M, (a [o, e, o, o, o, o, o]), i 1])), (42, M), (43, (a [o, e, o, o, o, o, o])), (44, i 1), (45, (.tup [M, (a [o, e, o, o, o, o, o]), i 1])), (46, P 1), (47, (a [o, s 1 97])), (48, (a [o, e, o])), (49, (.tup [M, (a [o, e, o, o, o, o, o]), i 1])), (50, M), (51, (a [o, e, o, o, o, o, o])), (52, i 1), (53, (.tup [M, i 1])), (54, (a [o, e, o, N, o, N, o, e, o, o, N])), (55, (.tup [M, i 1])), (56, M), (57, i 1), (58, (.tup [P 38, o])), (59, (.sl (q 34) 0 0 3 3 true 1)), (60, (.tup [P 38, o])), (61, P 38), (62, o), (63, (.tup [M, (a [o, o, o, o]), i 10])), (64, P 38), (65, (.tup [M, (a [o, o, o, o]), i 10])), (66, M), (67, (a [o, o, o, o])), (68, i 10), (69, i 1), (70, t), (71, t), (72, i 2), (73, t), (74, t), (75, t), (76, M), (77, t), (78, t), (79, t), (80, i 1), (81, t), (82, t), (83, t), (84, i 1), (85, t), (86, t), (87, t), (88, i 1), (89, t), (90, t), (91, t), (92, i 10), (93, t), (94, t), (95, t), (96, P 38), (97, o), (98, t), (99, t), (100, t)]), [.ops (oAt (zz 3 [1, 1, 1, 1, 1, 1, 1, 1, 1, 0]) 32), .code .ret], [], .run, false, none⟩
open ckS in
noncomputable def ckS.f1 : Fr := ⟨157, (v [(0, (.yield (q 5094))), (1, P 5092), (2, P 5095), (3, P 5096), (6, S 5091 0 0 295 295 1), (7, (.fn (.func 232) [] [P 5097, P 5098]))]), [.inRange (q 5100), .inBlock 0], [.mark (q 5099)], .run, false, none⟩
open ckS in
noncomputable def ckS.f2 : Fr := ⟨49, (v [(0, P 104), (2, M), (3, o), (4, P 5086), (5, S 5088 0 0 295 295 1), (6, o), (7, P 5089), (12, P 104), (13, P 4918), (14, f), (15, P 5075), (16, P 5080), (17, m 5081), (18, m 5082), (19, (a [P 5075, P 5080, m 5081, m 5082])), (20, P 104), (21, m 5083), (22, m 5084), (23, (a y31)), (24, P 5085), (25, (.tup [S 5088 0 0 295 295 1, o])), (26, P 104), (27, P 104), (28, o), (29, (.tup [S 5088 0 0 295 295 1, o])), (30, S 5088 0 0 295 295 1), (31, o), (32, S 5088 0 0 295 295 1), (33, (.fn (.func 157) [] [P 5092]))]), [.inRange (q 5094), .inBlock 0, .code (zz 49 [1, 1, 1, 1, 1, 1, 1, 1]), .inScope (zz 49 [1, 1])], [.mark (q 5093)], .run, false, none⟩
open ckS in
noncomputable def ckS.f3 : Fr := ⟨17, (v [(0, o), (1, P 104), (4, M), (5, o), (8, f), (9, P 104), (10, P 4759), (11, f), (12, f), (13, o), (14, f), (15, f), (16, o), (17, f), (18, f), (20, P 104)]), [.ops (oAt (zz 17 [1, 1, 0]) 1), .code (zz 17 [1, 1, 1])], [], .run, false, none⟩
open ckS in
noncomputable def ckS.f4 : Fr := ⟨6, (v [(0, P 104), (1, o), (4, M), (5, P 4755), (6, o), (32, o), (33, P 104)]), [.ops (oAt (zz 6 [1, 0]) 2), .code (zz 6 [1, 1])], [], .run, false, none⟩
open ckS in
noncomputable def ckS.f5 : Fr := ⟨13, (v [(0, f), (1, P 104), (2, o), (3, P 151), (4, o), (5, P 154), (6, P 155), (7, P 2060), (8, o), (9, o), (20, (.tup [P 104, o])), (21, (.tup [P 104, o])), (22, P 104), (23, o), (24, (.tup [P 151, o])), (25, P 104), (26, (.tup [P 151, o])), (27, P 151), (28, o), (29, (a [o, s 1 97])), (30, (a [o, s 1 98])), (31, o), (32, f), (33, f), (34, P 151), (35, (a [o, s 1 97])), (36, o), (37, f), (38, f), (39, P 151), (40, (a [o, s 1 97])), (41, (a [N, i 1, s 1 99, i 1, i 1, e])), (42, (.sl (q 755) 0 0 1 1 true 6)), (43, (.tup [(a [o, s 1 97, i 2, i 1, i 1, i 1, o]), o])), (44, (.tup [(a [o, s 1 97, i 3, i 1, i 1, i 1, o]), o])), (45, P 151), (46, (a [o, s 1 97])), (47, (a [N, i 1, s 1 99, i 1, i 2, e])), (48, (.sl (q 2059) 0 0 1 1 true 6)), (49, (.tup [(a [o, s 1 97, i 3, i 1, i 1, i 1, o]), o])), (50, (a [o, s 1 97, i 3, i 1, i 1, i 1, o])), (51, o), (52, P 151), (53, (a [o, s 1 98])), (54, P 2060), (55, (a [o, s 1 97, i 3])), (56, (.sl (q 3372) 0 0 1 1 true 3)), (57, o), (58, P 151), (59, (a [o, s 1 98])), (60, (a [N, i 1, s 1 99, i 1, i 3, e])), (61, (.sl (q 3441) 0 0 1 1 true 6)), (62, (.tup [(a [o, s 1 98, i 1, i 1, i 1, i 1, o]), o])), (64, P 104)]), [.ops (oAt (zz 13 [1, 1, 1, 1, 1, 1, 1, 1, 1, 0]) 1), .code (zz 13 [1, 1, 1, 1, 1, 1, 1, 1, 1, 1])], [], .run, false, none⟩
open ckS in
noncomputable def ckS.f6 : Fr := ⟨17, (v [(0, o), (1, P 104), (4, M), (5, o), (9, P 104)]), [.ops (oAt (zz 17 [1, 0, 1, 0]) 1), .code (zz 17 [1, 0, 1, 1]), .inBlock 0, .code (zz 17 [1, 1])], [], .run, false, none⟩
open ckS in
noncomputable def ckS.f7 : Fr := ⟨6, (v [(0, P 104), (1, o), (4, M), (5, P 4755), (6, o), (7, P 7339), (8, o), (9, i 4), (10, i 3), (11, i 221), (12, o), (13, o), (14, S 8158 0 0 295 295 1), (15, o), (16, P 8159), (17, i 10000), (18, N), (19, o), (20, i 16), (21, P 8160), (25, i 4), (26, P 8300), (31, (.tup [P 7338, o])), (32, o), (33, P 104), (34, (.tup [P 7338, o])), (35, P 7338), (36, o), (37, o), (38, f), (41, (.tup [i 4, i 3, i 221, o])), (42, P 7338), (43, (.tup [i 4, i 3, i 221, o])), (44, i 4), (45, i 3), (46, i 221), (47, o), (48, P 104), (49, o), (50, (.tup [S 8158 0 0 295 295 1, o])), (51, P 104), (52, o), (53, (.tup [S 8158 0 0 295 295 1, o])), (54, S 8158 0 0 295 295 1), (55, o), (56, o), (57, i 1), (58, P 104), (59, i 1), (60, i 10000), (61, (.tup [N, o])), (62, P 104), (63, i 1), (64, (.tup [N, o])), (65, N), (66, o), (67, i 221), (68, i 10000), (69, N), (70, o), (71, i 10000), (72, f), (74, P 104), (75, i 16), (76, P 7338), (77, P 8161), (78, (.fn (.func 57) [] [P 8167])), (92, P 7338), (93, P 8290), (94, i 4), (95, P 104), (96, i 1), (97, o), (98, P 104), (99, (.fn (.func 26) [P 104] [])), (100, P 7338), (101, (.fn (.func 44) [] [P 8301])), (112, P 104), (113, o), (115, o), (116, P 104)]), [.ops (oAt (zz 6 [1, 1, 1, 1, 1, 1, 1, 1, 1, 1, 1, 1, 1, 1, 1, 1, 1, 1, 0]) 2), .code (zz 6 [1, 1, 1, 1, 1, 1, 1, 1, 1, 1, 1, 1, 1, 1, 1, 1, 1, 1, 1])], [.mark (q 8302), .mark (q 8173)], .run, false, none⟩
open ckS in
noncomputable def ckS.f8 : Fr := ⟨157, (v [(0, (.yield (q 9741))), (1, P 9739), (2, P 9742), (3, P 9743), (6, S 9738 0 0 221 221 1), (7, (.fn (.func 232) [] [P 9744, P 9745]))]), [.inRange (q 9747), .inBlock 0], [.mark (q 9746)], .run, false, none⟩
open ckS in
noncomputable def ckS.f9 : Fr := ⟨49, (v [(0, P 104), (2, M), (3, o), (4, P 9733), (5, S 9735 0 0 221 221 1), (6, o), (7, P 9736), (12, P 104), (13, P 9451), (14, f), (15, P 9722), (16, P 9727), (17, m 9728), (18, m 9729), (19, (a [P 9722, P 9727, m 9728, m 9729])), (20, P 104), (21, m 9730), (22, m 9731), (23, (a y41)), (24, P 9732), (25, (.tup [S 9735 0 0 221 221 1, o])), (26, P 104), (27, P 104), (28, i 1), (29, (.tup [S 9735 0 0 221 221 1, o])), (30, S 9735 0 0 221 221 1), (31, o), (32, S 9735 0 0 221 221 1), (33, (.fn (.func 157) [] [P 9739]))]), [.inRange (q 9741), .inBlock 0, .code (zz 49 [1, 1, 1, 1, 1, 1, 1, 1]), .inScope (zz 49 [1, 1])], [.mark (q 9740)], .run, false, none⟩
open ckS in
noncomputable def ckS.f10 : Fr := ⟨17, (v [(0, o), (1, P 104), (4, M), (5, o), (8, f), (9, P 104), (10, P 9178), (11, f), (12, f), (13, o), (14, f), (15, f), (16, o), (17, f), (18, f), (20, P 104)]), [.ops (oAt (zz 17 [1, 1, 0]) 1), .code (zz 17 [1, 1, 1])], [], .run, false, none⟩
open ckS in
noncomputable def ckS.f11 : Fr := ⟨157, (v [(0, (.yield (q 12257))), (1, P 12255), (2, P 12258), (3, P 12259), (6, S 12254 0 0 233 233 1), (7, (.fn (.func 232) [] [P 12260, P 12261]))]), [.inRange (q 12263), .inBlock 0], [.mark (q 12262)], .run, false, none⟩
open ckS in
noncomputable def ckS.f12 : Fr := ⟨49, (v [(0, P 104), (2, M), (3, o), (4, P 12249), (5, S 12251 0 0 233 233 1), (6, o), (7, P 12252), (12, P 104), (13, P 11958), (14, f), (15, P 12238), (16, P 12243), (17, m 12244), (18, m 12245), (19, (a y56)), (20, P 104), (21, m 12246), (22, m 12247), (23, (a y35)), (24, P 12248), (25, (.tup [S 12251 0 0 233 233 1, o])), (26, P 104), (27, P 104), (28, i 1), (29, (.tup [S 12251 0 0 233 233 1, o])), (30, S 12251 0 0 233 233 1), (31, o), (32, S 12251 0 0 233 233 1), (33, (.fn (.func 157) [] [P 12255]))]), [.inRange (q 12257), .inBlock 0, .code (zz 49 [1, 1, 1, 1, 1, 1, 1, 1]), .inScope (zz 49 [1, 1])], [.mark (q 12256)], .run, false, none⟩
open ckS in
noncomputable def ckS.f13 : Fr := ⟨17, (v [(0, o), (1, P 104), (4, M), (5, o), (8, f), (9, P 104), (10, P 11676), (11, f), (12, f), (13, o), (14, f), (15, f), (16, o), (17, f), (18, f), (20, P 104)]), [.ops (oAt (zz 17 [1, 1, 0]) 1), .code (zz 17 [1, 1, 1])], [], .run, false, none⟩
open ckS in
noncomputable def ckS.f14 : Fr := ⟨6, (v [(0, P 104), (1, o), (4, M), (5, P 11672), (6, o), (32, o), (33, P 104)]), [.ops (oAt (zz 6 [1, 0]) 2), .code (zz 6 [1, 1])], [], .run, false, none⟩
open ckS in
noncomputable def ckS.f15 : Fr := ⟨13, (v [(0, f), (1, P 104), (2, o), (3, P 11625), (4, o), (5, P 154), (6, P 155), (7, P 2060), (8, o), (9, o), (10, P 11626), (11, o), (12, o), (20, (.tup [P 104, o])), (21, (.tup [P 104, o])), (22, P 104), (23, o), (24, (.tup [P 151, o])), (25, P 104), (26, (.tup [P 151, o])), (27, P 151), (28, o), (29, (a [o, s 1 97])), (30, (a [o, s 1 98])), (31, o), (32, f), (33, f), (34, P 151), (35, (a [o, s 1 97])), (36, o), (37, f), (38, f), (39, P 151), (40, (a [o, s 1 97])), (41, (a [N, i 1, s 1 99, i 1, i 1, e])), (42, (.sl (q 755) 0 0 1 1 true 6)), (43, (.tup [(a [o, s 1 97, i 2, i 1, i 1, i 1, o]), o])), (44, (.tup [(a [o, s 1 97, i 3, i 1, i 1, i 1, o]), o])), (45, P 151), (46, (a [o, s 1 97])), (47, (a [N, i 1, s 1 99, i 1, i 2, e])), (48, (.sl (q 2059) 0 0 1 1 true 6)), (49, (.tup [(a [o, s 1 97, i 3, i 1, i 1, i 1, o]), o])), (50, (a [o, s 1 97, i 3, i 1, i 1, i 1, o])), (51, o), (52, P 151), (53, (a [o, s 1 98])), (54, P 2060), (55, (a [o, s 1 97, i 3])), (56, (.sl (q 3372) 0 0 1 1 true 3)), (57, o), (58, P 151), (59, (a [o, s 1 98])), (60, (a [N, i 1, s 1 99, i 1, i 3, e])), (61, (.sl (q 3441) 0 0 1 1 true 6)), (62, (.tup [(a [o, s 1 98, i 1, i 1, i 1, i 1, o]), o])), (63, (.tup [P 11625, (a [o, o, i 74, i 13]), o])), (64, P 104), (65, (.tup [P 11625, (a [o, o, i 74, i 13]), o])), (66, P 11625), (67, (a [o, o, i 74, i 13])), (68, o), (69, P 11625), (70, (a [o, s 1 98])), (71, o), (73, P 104)]), [.ops (oAt (zz 13 [1, 1, 1, 1, 1, 1, 1, 1, 1, 1, 1, 0]) 1), .code (zz 13 [1, 1, 1, 1, 1, 1, 1, 1, 1, 1, 1, 1])], [], .run, false, none⟩
open ckS in
noncomputable def ckS.f16 : Fr := ⟨157, (v [(0, (.yield (q 16304))), (1, P 16302), (2, P 16305), (3, P 16306), (6, S 16301 0 0 156 156 1), (7, (.fn (.func 232) [] [P 16307, P 16308]))]), [.inRange (q 16310), .inBlock 0], [.mark (q 16309)], .run, false, none⟩
open ckS in
noncomputable def ckS.f17 : Fr := ⟨49, (v [(0, P 104), (2, M), (3, o), (4, P 16296), (5, S 16298 0 0 156 156 1), (6, o), (7, P 16299), (12, P 104), (13, P 15918), (14, f), (15, P 16285), (16, P 16290), (17, m 16291), (18, m 16292), (19, (a [P 16285, P 16290, m 16291, m 16292])), (20, P 104), (21, m 16293), (22, m 16294), (23, (a y36)), (24, P 16295), (25, (.tup [S 16298 0 0 156 156 1, o])), (26, P 104), (27, P 104), (28, o), (29, (.tup [S 16298 0 0 156 156 1, o])), (30, S 16298 0 0 156 156 1), (31, o), (32, S 16298 0 0 156 156 1), (33, (.fn (.func 157) [] [P 16302]))]), [.inRange (q 16304), .inBlock 0, .code (zz 49 [1, 1, 1, 1, 1, 1, 1, 1]), .inScope (zz 49 [1, 1])], [.mark (q 16303)], .run, false, none⟩
open ckS in
noncomputable def ckS.f18 : Fr := ⟨17, (v [(0, o), (1, P 104), (4, M), (5, o), (8, f), (9, P 104), (10, P 15549), (11, f), (12, f), (13, o), (14, f), (15, f), (16, o), (17, f), (18, f), (20, P 104)]), [.ops (oAt (zz 17 [1, 1, 0]) 1), .code (zz 17 [1, 1, 1])], [], .run, false, none⟩
open ckS in
noncomputable def ckS.f19 : Fr := ⟨6, (v [(0, P 104), (1, o), (4, M), (5, P 11672), (6, o), (7, P 14195), (8, o), (9, i 3), (10, i 2), (11, i 156), (12, o), (13, i 1), (14, S 14778 0 0 233 233 1), (15, o), (16, P 14779), (17, i 9705), (18, S 14781 0 0 295 295 1), (19, o), (20, i 30), (21, P 14782), (25, i 4), (26, P 14922), (31, (.tup [P 14194, o])), (32, o), (33, P 104), (34, (.tup [P 14194, o])), (35, P 14194), (36, o), (37, o), (38, f), (41, (.tup [i 3, i 2, i 156, o])), (42, P 14194), (43, (.tup [i 3, i 2, i 156, o])), (44, i 3), (45, i 2), (46, i 156), (47, o), (48, P 104), (49, i 1), (50, (.tup [S 14778 0 0 233 233 1, o])), (51, P 104), (52, i 1), (53, (.tup [S 14778 0 0 233 233 1, o])), (54, S 14778 0 0 233 233 1), (55, o), (56, i 1), (57, o), (58, P 104), (59, o), (60, i 9705), (61, (.tup [S 14781 0 0 295 295 1, o])), (62, P 104), (63, o), (64, (.tup [S 14781 0 0 295 295 1, o])), (65, S 14781 0 0 295 295 1), (66, o), (67, i 156), (68, i 9705), (69, S 14781 0 0 295 295 1), (70, i 295), (71, i 10000), (72, f), (74, P 104), (75, i 30), (76, P 14194), (77, P 14783), (78, (.fn (.func 57) [] [P 14789])), (92, P 14194), (93, P 14912), (94, i 4), (95, P 104), (96, o), (97, o), (98, P 104), (99, (.fn (.func 26) [P 104] [])), (100, P 14194), (101, (.fn (.func 44) [] [P 14923])), (112, P 104), (113, o), (115, o), (116, P 104)]), [.ops (oAt (zz 6 [1, 1, 1, 1, 1, 1, 1, 1, 1, 1, 1, 1, 1, 1, 1, 1, 1, 1, 0]) 2), .code (zz 6 [1, 1, 1, 1, 1, 1, 1, 1, 1, 1, 1, 1, 1, 1, 1, 1, 1, 1, 1])], [.mark (q 14924), .mark (q 14795)], .run, false, none⟩
open ckS in
noncomputable def ckS.f20 : Fr := ⟨157, (v [(0, (.yield (q 18387))), (1, P 18385), (2, P 18388), (3, P 18389), (6, S 18384 0 0 156 156 1), (7, (.fn (.func 232) [] [P 18390, P 18391]))]), [.inRange (q 18393), .inBlock 0], [.mark (q 18392)], .run, false, none⟩
open ckS in
noncomputable def ckS.f21 : Fr := ⟨49, (v [(0, P 104), (2, M), (3, o), (4, P 18379), (5, S 18381 0 0 156 156 1), (6, o), (7, P 18382), (12, P 104), (13, P 18001), (14, f), (15, P 18368), (16, P 18373), (17, m 18374), (18, m 18375), (19, (a y57)), (20, P 104), (21, m 18376), (22, m 18377), (23, (a y37)), (24, P 18378), (25, (.tup [S 18381 0 0 156 156 1, o])), (26, P 104), (27, P 104), (28, o), (29, (.tup [S 18381 0 0 156 156 1, o])), (30, S 18381 0 0 156 156 1), (31, o), (32, S 18381 0 0 156 156 1), (33, (.fn (.func 157) [] [P 18385]))]), [.inRange (q 18387), .inBlock 0, .code (zz 49 [1, 1, 1, 1, 1, 1, 1, 1]), .inScope (zz 49 [1, 1])], [.mark (q 18386)], .run, false, none⟩
open ckS in
noncomputable def ckS.f22 : Fr := ⟨17, (v [(0, o), (1, P 104), (4, M), (5, o), (8, f), (9, P 104), (10, P 17632), (11, f), (12, f), (13, o), (14, f), (15, f), (16, o), (17, f), (18, f), (20, P 104)]), [.ops (oAt (zz 17 [1, 1, 0]) 1), .code (zz 17 [1, 1, 1])], [], .run, false, none⟩
open ckS in
noncomputable def ckS.f23 : Fr := ⟨6, (v [(0, P 104), (1, o), (4, M), (5, P 17628), (6, o), (32, o), (33, P 104)]), [.ops (oAt (zz 6 [1, 0]) 2), .code (zz 6 [1, 1])], [], .run, false, none⟩
open ckS in
noncomputable def ckS.f24 : Fr := ⟨13, (v [(0, f), (1, P 104), (2, o), (3, P 17626), (4, o), (5, P 154), (6, P 155), (7, P 2060), (8, o), (9, o), (10, P 11626), (11, o), (12, o), (13, P 17627), (14, o), (20, (.tup [P 104, o])), (21, (.tup [P 104, o])), (22, P 104), (23, o), (24, (.tup [P 151, o])), (25, P 104), (26, (.tup [P 151, o])), (27, P 151), (28, o), (29, (a [o, s 1 97])), (30, (a [o, s 1 98])), (31, o), (32, f), (33, f), (34, P 151), (35, (a [o, s 1 97])), (36, o), (37, f), (38, f), (39, P 151), (40, (a [o, s 1 97])), (41, (a [N, i 1, s 1 99, i 1, i 1, e])), (42, (.sl (q 755) 0 0 1 1 true 6)), (43, (.tup [(a [o, s 1 97, i 2, i 1, i 1, i 1, o]), o])), (44, (.tup [(a [o, s 1 97, i 3, i 1, i 1, i 1, o]), o])), (45, P 151), (46, (a [o, s 1 97])), (47, (a [N, i 1, s 1 99, i 1, i 2, e])), (48, (.sl (q 2059) 0 0 1 1 true 6)), (49, (.tup [(a [o, s 1 97, i 3, i 1, i 1, i 1, o]), o])), (50, (a [o, s 1 97, i 3, i 1, i 1, i 1, o])), (51, o), (52, P 151), (53, (a [o, s 1 98])), (54, P 2060), (55, (a [o, s 1 97, i 3])), (56, (.sl (q 3372) 0 0 1 1 true 3)), (57, o), (58, P 151), (59, (a [o, s 1 98])), (60, (a [N, i 1, s 1 99, i 1, i 3, e])), (61, (.sl (q 3441) 0 0 1 1 true 6)), (62, (.tup [(a [o, s 1 98, i 1, i 1, i 1, i 1, o]), o])), (63, (.tup [P 11625, (a [o, o, i 74, i 13]), o])), (64, P 104), (65, (.tup [P 11625, (a [o, o, i 74, i 13]), o])), (66, P 11625), (67, (a [o, o, i 74, i 13])), (68, o), (69, P 11625), (70, (a [o, s 1 98])), (71, o), (72, (.tup [P 17626, (a [i 1, i 1, i 77, i 10]), o])), (73, P 104), (74, (.tup [P 17626, (a [i 1, i 1, i 77, i 10]), o])), (75, P 17626), (76, (a [i 1, i 1, i 77, i 10])), (77, o), (79, P 104)]), [.ops (oAt (zz 13 [1, 1, 1, 1, 1, 1, 1, 1, 1, 1, 1, 1, 0]) 1), .code (zz 13 [1, 1, 1, 1, 1, 1, 1, 1, 1, 1, 1, 1, 1])], [], .run, false, none⟩
open ckS in
noncomputable def ckS.f25 : Fr := ⟨6, (v [(0, P 104), (1, o), (4, M), (5, P 17628), (6, o), (7, P 19710), (8, o), (9, i 3), (10, i 2), (11, i 156), (12, o), (13, o), (14, S 20292 0 0 156 156 1), (15, o), (16, P 20293), (17, i 9767), (18, S 20295 0 0 233 233 1), (19, o), (20, i 40), (21, P 20296), (25, i 3), (26, P 20404), (31, (.tup [P 19709, o])), (32, o), (33, P 104), (34, (.tup [P 19709, o])), (35, P 19709), (36, o), (37, o), (38, f), (41, (.tup [i 3, i 2, i 156, o])), (42, P 19709), (43, (.tup [i 3, i 2, i 156, o])), (44, i 3), (45, i 2), (46, i 156), (47, o), (48, P 104), (49, o), (50, (.tup [S 20292 0 0 156 156 1, o])), (51, P 104), (52, o), (53, (.tup [S 20292 0 0 156 156 1, o])), (54, S 20292 0 0 156 156 1), (55, o), (56, o), (57, i 1), (58, P 104), (59, i 1), (60, i 9767), (61, (.tup [S 20295 0 0 233 233 1, o])), (62, P 104), (63, i 1), (64, (.tup [S 20295 0 0 233 233 1, o])), (65, S 20295 0 0 233 233 1), (66, o), (67, i 156), (68, i 9767), (69, S 20295 0 0 233 233 1), (70, i 233), (71, i 10000), (72, f), (74, P 104), (75, i 40), (76, P 19709), (77, P 20297), (78, (.fn (.func 57) [] [P 20302])), (92, P 19709), (93, P 20395), (94, i 3), (95, P 104), (96, i 1), (97, o), (98, P 104), (99, (.fn (.func 26) [P 104] [])), (100, P 19709), (101, (.fn (.func 44) [] [P 20405])), (112, P 104), (113, o), (115, o), (116, P 104)]), [.ops (oAt (zz 6 [1, 1, 1, 1, 1, 1, 1, 1, 1, 1, 1, 1, 1, 1, 1, 1, 1, 1, 0]) 2), .code (zz 6 [1, 1, 1, 1, 1, 1, 1, 1, 1, 1, 1, 1, 1, 1, 1, 1, 1, 1, 1])], [.mark (q 20406), .mark (q 20307)], .run, false, none⟩
open ckS in
noncomputable def ckS.f26 : Fr := ⟨157, (v [(0, (.yield (q 21959))), (1, P 21957), (2, P 21960), (3, P 21961), (6, S 21956 0 0 156 156 1), (7, (.fn (.func 232) [] [P 21962, P 21963]))]), [.inRange (q 21965), .inBlock 0], [.mark (q 21964)], .run, false, none⟩
open ckS in
noncomputable def ckS.f27 : Fr := ⟨49, (v [(0, P 104), (2, M), (3, o), (4, P 21951), (5, S 21953 0 0 156 156 1), (6, o), (7, P 21954), (12, P 104), (13, P 21486), (14, f), (15, P 21940), (16, P 21945), (17, m 21946), (18, m 21947), (19, (a y58)), (20, P 104), (21, m 21948), (22, m 21949), (23, (a y39)), (24, P 21950), (25, (.tup [S 21953 0 0 156 156 1, o])), (26, P 104), (27, P 104), (28, i 1), (29, (.tup [S 21953 0 0 156 156 1, o])), (30, S 21953 0 0 156 156 1), (31, o), (32, S 21953 0 0 156 156 1), (33, (.fn (.func 157) [] [P 21957]))]), [.inRange (q 21959), .inBlock 0, .code (zz 49 [1, 1, 1, 1, 1, 1, 1, 1]), .inScope (zz 49 [1, 1])], [.mark (q 21958)], .run, false, none⟩
open ckS in
noncomputable def ckS.f28 : Fr := ⟨17, (v [(0, o), (1, P 104), (4, M), (5, o), (8, f), (9, P 104), (10, P 21030), (11, f), (12, f), (13, o), (14, f), (15, f), (16, o), (17, f), (18, f), (20, P 104)]), [.ops (oAt (zz 17 [1, 1, 0]) 1), .code (zz 17 [1, 1, 1])], [], .run, false, none⟩
open ckS in
noncomputable def ckS.b0 : Nat × Blk := (1716, (B 24 24519928739614503124695997788886127144537787169476050944))
open ckS in
noncomputable def ckS.b1 : Nat × Blk := (1722, (B 25 12554203495218079607260325575567302747373596374054534709760))
open ckS in
noncomputable def ckS.b2 : Nat × Blk := (3029, (B 24 24519928739760953970731178901220047668150328687008808960))
open ckS in
noncomputable def ckS.b3 : Nat × Blk := (3035, (B 25 12554203494397078408126615600838912986032910281925529240320))
open ckS in
noncomputable def ckS.b4 : Nat × Blk := (439, (.cells 1 (.byt 295 4213177857983241712894721505157587136609109489562768853972679579243480418658011517828420942311068408992548390539760651615899507791012873399889040096133932650665316552140886373599495980632692883777977567162988843132170492554327654885913727552203853348438586435970138074340842150636255645334300502997561025871316866579501365565979723221778024630689119925192253440477262117163885450757110343897408738626928247438876378529650769424996329223490823638018414168592947633078230825986024948932356236270886550592738406972595239999920953725901724225083611037187570415830337247655544738948600624786402817950384514908071304097474023271528276087225937537197916542846049753737286097759347812642108152598097034470735646646785) 0 13 15 0 false false))
open ckS in
noncomputable def ckS.b5 : Nat × Blk := (441, (.cells 0 (.lst 48 [i 1, o, S 435 0 0 13 13 1, i 1, o, S 582 0 0 16 16 1, i 1, o, S 735 0 0 16 16 1, i 1, o, S 1329 0 0 13 13 1, i 1, o, S 1716 0 0 24 24 1, i 1, o, S 1722 0 0 25 25 1, i 1, o, S 2026 0 0 16 16 1, i 1, o, S 2642 0 0 13 13 1, i 1, o, S 3029 0 0 24 24 1, i 1, o, S 3035 0 0 25 25 1, i 1, o, S 3339 0 0 16 16 1, i 1, o, S 3436 0 0 16 16 1, i 1, o, S 4025 0 0 13 13 1, i 1, o, S 4412 0 0 24 24 1, i 1, o, S 4418 0 0 25 25 1, i 1, o, S 4722 0 0 16 16 1]) 0 3 15 0 false false))
open ckS in
noncomputable def ckS.b6 : Nat × Blk := (4412, (B 24 24519928739568825725257676333165822500868260528386736128))
open ckS in
noncomputable def ckS.b7 : Nat × Blk := (4418, (B 25 12554203494419369227628785527250361219754848554013727785216))
open ckS in
noncomputable def ckS.b8 : Nat × Blk := (5088, (B 295 4213177857983241712894721505157587136609109489562768853972679579243480418658011517828420942311068408992548390539760651615899507791012873399889040096133932650665316552140886373599495980632692883777977567162988843132170492554327654885913727552203853348438586435970138074340842150636255645334300502997561025871316866579501365565979723221778024630689119925192253440477262117163885450757110343897408738626928247438876378529650769424996329223490823638018414168592947633078230825986024948932356236270886550592738406972595239999920953725901724225083611037187570415830337247655544738948600624786402817950384514908071304097474023271528276087225937537197916542846049753737286097759347812642108152598097034470735646646785))
open ckS in
noncomputable def ckS.b9 : Nat × Blk := (4918, (L 8 [i 10000, o, S 4936 15 0 295 295 1, N, N, N, o, S 4938 15 0 16 16 3]))
open ckS in
noncomputable def ckS.b10 : Nat × Blk := (4936, (.cells 1 (.byt 295 4213177857983241712894721505157587136609109489562768853972679579243480418658011517828420942311068408992548390539760651615899507791012873399889040096133932650665316552140886373599495980632692883777977567162988843132170492554327654885913727552203853348438586435970138074340842150636255645334300502997561025871316866579501365565979723221778024630689119925192253440477262117163885450757110343897408738626928247438876378529650769424996329223490823638018414168592947633078230825986024948932356236270886550592738406972595239999920953725901724225083611037187570415830337247655544738948600624786402817950384514908071304097474023271528276087225937537197916542846049753737286097759347812642108152598097034470735646646785) 0 13 15 0 false false))
open ckS in
noncomputable def ckS.b11 : Nat × Blk := (4938, (.cells 0 (.lst 48 [i 1, o, S 4931 0 0 13 13 1, i 1, o, S 4942 0 0 16 16 1, i 1, o, S 4951 0 0 16 16 1, i 1, o, S 4960 0 0 13 13 1, i 1, o, S 4969 0 0 24 24 1, i 1, o, S 4978 0 0 25 25 1, i 1, o, S 4987 0 0 16 16 1, i 1, o, S 4996 0 0 13 13 1, i 1, o, S 5005 0 0 24 24 1, i 1, o, S 5014 0 0 25 25 1, i 1, o, S 5023 0 0 16 16 1, i 1, o, S 5032 0 0 16 16 1, i 1, o, S 5041 0 0 13 13 1, i 1, o, S 5050 0 0 24 24 1, i 1, o, S 5059 0 0 25 25 1, i 1, o, S 5068 0 0 16 16 1]) 0 3 15 0 false false))
open ckS in
noncomputable def ckS.b12 : Nat × Blk := (4969, (B 24 24519928739614503124695997788886127144537787169476050944))
open ckS in
noncomputable def ckS.b13 : Nat × Blk := (4978, (B 25 12554203495218079607260325575567302747373596374054534709760))
open ckS in
noncomputable def ckS.b14 : Nat × Blk := (5005, (B 24 24519928739760953970731178901220047668150328687008808960))
open ckS in
noncomputable def ckS.b15 : Nat × Blk := (5014, (B 25 12554203494397078408126615600838912986032910281925529240320))
open ckS in
noncomputable def ckS.b16 : Nat × Blk := (5050, (B 24 24519928739568825725257676333165822500868260528386736128))
open ckS in
noncomputable def ckS.b17 : Nat × Blk := (5059, (B 25 12554203494419369227628785527250361219754848554013727785216))
open ckS in
noncomputable def ckS.b18 : Nat × Blk := (5091, (B 295 4213177857983241712894721505157587136609109489562768853972679579243480418658011517828420942311068408992548390539760651615899507791012873399889040096133932650665316552140886373599495980632692883777977567162988843132170492554327654885913727552203853348438586435970138074340842150636255645334300502997561025871316866579501365565979723221778024630689119925192253440477262117163885450757110343897408738626928247438876378529650769424996329223490823638018414168592947633078230825986024948932356236270886550592738406972595239999920953725901724225083611037187570415830337247655544738948600624786402817950384514908071304097474023271528276087225937537197916542846049753737286097759347812642108152598097034470735646646785))
open ckS in
noncomputable def ckS.b19 : Nat × Blk := (5094, (.loop 4567 .busy none 49 (v [(0, P 104), (2, M), (3, o), (4, P 5086), (5, S 5088 0 0 295 295 1), (6, o), (7, P 5089), (12, P 104), (13, P 4918), (14, f), (15, P 5075), (16, P 5080), (17, m 5081), (18, m 5082), (19, (a [P 5075, P 5080, m 5081, m 5082])), (20, P 104), (21, m 5083), (22, m 5084), (23, (a y31)), (24, P 5085), (25, (.tup [S 5088 0 0 295 295 1, o])), (26, P 104), (27, P 104), (28, o), (29, (.tup [S 5088 0 0 295 295 1, o])), (30, S 5088 0 0 295 295 1), (31, o), (32, S 5088 0 0 295 295 1), (33, (.fn (.func 157) [] [P 5092]))]) [(q 34), (q 35)] (zz 49 [1, 1, 1, 1, 1, 1, 1, 0, 1, 1, 0]) (zz 49 [1, 1, 1, 1, 1, 1, 1, 0, 1, 1, 1]) (q 5093)))
open ckS in
noncomputable def ckS.b20 : Nat × Blk := (5100, (.loop 4573 .busy none 157 (v [(0, (.yield (q 5094))), (1, P 5092), (2, P 5095), (3, P 5096), (6, S 5091 0 0 295 295 1), (7, (.fn (.func 232) [] [P 5097, P 5098]))]) [(q 8), (q 9)] (zz 157 [1, 1, 1, 1, 0]) (zz 157 [1, 1, 1, 1, 1]) (q 5099)))
open ckS in
noncomputable def ckS.b21 : Nat × Blk := (4759, (L 8 [i 10000, o, S 4777 15 0 295 295 1, N, N, N, o, S 4779 15 0 16 16 3]))
open ckS in
noncomputable def ckS.b22 : Nat × Blk := (4777, (.cells 1 (.byt 295 4213177857983241712894721505157587136609109489562768853972679579243480418658011517828420942311068408992548390539760651615899507791012873399889040096133932650665316552140886373599495980632692883777977567162988843132170492554327654885913727552203853348438586435970138074340842150636255645334300502997561025871316866579501365565979723221778024630689119925192253440477262117163885450757110343897408738626928247438876378529650769424996329223490823638018414168592947633078230825986024948932356236270886550592738406972595239999920953725901724225083611037187570415830337247655544738948600624786402817950384514908071304097474023271528276087225937537197916542846049753737286097759347812642108152598097034470735646646785) 0 13 15 0 false false))
open ckS in
noncomputable def ckS.b23 : Nat × Blk := (4779, (.cells 0 (.lst 48 [i 1, o, S 4772 0 0 13 13 1, i 1, o, S 4783 0 0 16 16 1, i 1, o, S 4792 0 0 16 16 1, i 1, o, S 4801 0 0 13 13 1, i 1, o, S 4810 0 0 24 24 1, i 1, o, S 4819 0 0 25 25 1, i 1, o, S 4828 0 0 16 16 1, i 1, o, S 4837 0 0 13 13 1, i 1, o, S 4846 0 0 24 24 1, i 1, o, S 4855 0 0 25 25 1, i 1, o, S 4864 0 0 16 16 1, i 1, o, S 4873 0 0 16 16 1, i 1, o, S 4882 0 0 13 13 1, i 1, o, S 4891 0 0 24 24 1, i 1, o, S 4900 0 0 25 25 1, i 1, o, S 4909 0 0 16 16 1]) 0 3 15 0 false false))
open ckS in
noncomputable def ckS.b24 : Nat × Blk := (4810, (B 24 24519928739614503124695997788886127144537787169476050944))
open ckS in
noncomputable def ckS.b25 : Nat × Blk := (4819, (B 25 12554203495218079607260325575567302747373596374054534709760))
open ckS in
noncomputable def ckS.b26 : Nat × Blk := (4846, (B 24 24519928739760953970731178901220047668150328687008808960))
open ckS in
noncomputable def ckS.b27 : Nat × Blk := (4855, (B 25 12554203494397078408126615600838912986032910281925529240320))
open ckS in
noncomputable def ckS.b28 : Nat × Blk := (4891, (B 24 24519928739568825725257676333165822500868260528386736128))
open ckS in
noncomputable def ckS.b29 : Nat × Blk := (4900, (B 25 12554203494419369227628785527250361219754848554013727785216))
open ckS in
noncomputable def ckS.b30 : Nat × Blk := (127, (.map 0 [((a [o, s 1 97, i 1]), (a [o, s 1 97, i 1, N, i 1, N]), 0), ((a [o, s 1 97, i 2]), (a y11), 1), ((a [o, s 1 97, i 3]), (a y12), 2), ((a [o, s 1 98, i 1]), (a y13), 3)] 4))
open ckS in
noncomputable def ckS.b31 : Nat × Blk := (4595, (.map 0 [((.ifc 143 (P 1929)), (a [o, s 1 97, i 2, o]), 0), ((.ifc 143 (P 3242)), (a [o, s 1 97, i 3, o]), 1), ((.ifc 143 (P 4625)), (a [o, s 1 98, i 1, o]), 2)] 3))
open ckS in
noncomputable def ckS.b32 : Nat × Blk := (4596, (.map 0 [((a [o, s 1 97, i 2, o]), P 1929, 0), ((a [o, s 1 97, i 3, o]), P 3242, 1), ((a [o, s 1 98, i 1, o]), P 4625, 2)] 3))
open ckS in
noncomputable def ckS.b33 : Nat × Blk := (4598, (.map 0 [((a [o, s 1 97, i 2]), t, 0), ((a [o, s 1 97, i 3]), t, 1), ((a [o, s 1 98, i 1]), t, 2)] 3))
open ckS in
noncomputable def ckS.b34 : Nat × Blk := (134, (.map 0 [((a [o, s 1 97, i 1]), (a [o, e, o, o]), 0), ((a [o, s 1 97, i 2]), (a [o, s 1 97, i 2, o]), 1), ((a [o, s 1 97, i 3]), (a [o, s 1 97, i 3, o]), 2), ((a [o, s 1 98, i 1]), (a [o, s 1 98, i 1, o]), 3)] 4))
open ckS in
noncomputable def ckS.b35 : Nat × Blk := (135, (.map 0 [((a [o, s 1 97, i 1]), N, 0), ((a [o, s 1 97, i 2]), S 1888 0 0 1 1 20, 1), ((a [o, s 1 97, i 3]), S 3201 0 0 1 1 20, 2), ((a [o, s 1 98, i 1]), S 4584 0 0 1 1 20, 3)] 4))
open ckS in
noncomputable def ckS.b36 : Nat × Blk := (136, (.map 0 [((a [o, s 1 97]), (a [o, s 1 97, i 3]), 0), ((a [o, s 1 98]), (a [o, s 1 98, i 1]), 1)] 2))
open ckS in
noncomputable def ckS.b37 : Nat × Blk := (137, (.map 0 [((a [o, s 1 97]), i 3, 0), ((a [o, s 1 98]), i 1, 1)] 2))
open ckS in
noncomputable def ckS.b38 : Nat × Blk := (5074, (.map 0 [((a [o, s 1 97, i 1]), (a y32), 0), ((a [o, s 1 97, i 2]), (a y46), 1), ((a [o, s 1 97, i 3]), (a y51), 2), ((a [o, s 1 98, i 1]), (a y52), 3)] 4))
open ckS in
noncomputable def ckS.b39 : Nat × Blk := (7184, (.map 0 [((.ifc 143 (P 5898)), (a [o, s 1 97, i 2, o]), 0), ((.ifc 143 (P 6514)), (a [o, s 1 97, i 3, o]), 1), ((.ifc 143 (P 7214)), (a [o, s 1 98, i 1, o]), 2)] 3))
open ckS in
noncomputable def ckS.b40 : Nat × Blk := (7185, (.map 0 [((a [o, s 1 97, i 2, o]), P 5898, 0), ((a [o, s 1 97, i 3, o]), P 6514, 1), ((a [o, s 1 98, i 1, o]), P 7214, 2)] 3))
open ckS in
noncomputable def ckS.b41 : Nat × Blk := (7187, (.map 0 [((a [o, s 1 97, i 2]), t, 0), ((a [o, s 1 97, i 3]), t, 1), ((a [o, s 1 98, i 1]), t, 2)] 3))
open ckS in
noncomputable def ckS.b42 : Nat × Blk := (5081, (.map 0 [((a [o, s 1 97, i 1]), (a [o, e, o, o]), 0), ((a [o, s 1 97, i 2]), (a [o, s 1 97, i 2, o]), 1), ((a [o, s 1 97, i 3]), (a [o, s 1 97, i 3, o]), 2), ((a [o, s 1 98, i 1]), (a [o, s 1 98, i 1, o]), 3)] 4))
open ckS in
noncomputable def ckS.b43 : Nat × Blk := (5082, (.map 0 [((a [o, s 1 97, i 1]), N, 0), ((a [o, s 1 97, i 2]), S 5857 0 0 1 1 20, 1), ((a [o, s 1 97, i 3]), S 6473 0 0 1 1 20, 2), ((a [o, s 1 98, i 1]), S 7173 0 0 1 1 20, 3)] 4))
open ckS in
noncomputable def ckS.b44 : Nat × Blk := (5084, (.map 0 [((a [o, s 1 97]), i 3, 0), ((a [o, s 1 98]), i 1, 1)] 2))
open ckS in
noncomputable def ckS.b45 : Nat × Blk := (5083, (.map 0 [((a [o, s 1 97]), (a [o, s 1 97, i 3]), 0), ((a [o, s 1 98]), (a [o, s 1 98, i 1]), 1)] 2))
open ckS in
noncomputable def ckS.b46 : Nat × Blk := (8158, (B 295 4213177857983241712894721505157587136609109489562768853972679579243480418658011517828420942311068408992548390539760651615899507791012873399889040096133932650665316552140886373599495980632692883777977567162988843132170492554327654885913727552203853348438586435970138074340842150636255645334300502997561025871316866579501365565979723221778024630689119925192253440477262117163885450757110343897408738626928247438876378529650769424996329223490823638018414168592947633078230825986024948932356236270886550592738406972595239999920953725901724225083611037187570415830337247655544738948600624786402817950384514908071304097474023271528276087225937537197916542846049753737286097759347812642108152598097034470735646646785))
open ckS in
noncomputable def ckS.b47 : Nat × Blk := (8166, (.map 0 [((a [o, s 1 97, i 1]), (a y67), 0), ((a [o, s 1 97, i 2]), (a [o, s 1 97, i 2, S 8163 0 0 1 1 3, i 2, N]), 1), ((a [o, s 1 97, i 3]), (a [o, s 1 97, i 3, S 8164 0 0 1 1 3, i 3, N]), 2), ((a [o, s 1 98, i 1]), (a [o, s 1 98, i 1, S 8165 0 0 1 1 3, i 4, N]), 3)] 4))
open ckS in
noncomputable def ckS.b48 : Nat × Blk := (8168, (.cells 0 (.lst 24 [o, s 1 97, i 1, (.sl (q 8169) 0 0 0 0 true 3), i 1, N, o, s 1 97, i 2, S 8170 0 0 1 1 3, i 2, N, o, s 1 97, i 3, S 8171 0 0 1 1 3, i 3, N, o, s 1 98, i 1, S 8172 0 0 1 1 3, i 4, N]) 0 0 3 3 false false))
open ckS in
noncomputable def ckS.b49 : Nat × Blk := (8295, (.map 0 [((a [o, s 1 97, i 1]), (a y68), 0), ((a [o, s 1 97, i 2]), (a [o, s 1 97, i 2, S 8292 0 0 1 1 3, i 2, N]), 1), ((a [o, s 1 97, i 3]), (a [o, s 1 97, i 3, S 8293 0 0 1 1 3, i 3, N]), 2), ((a [o, s 1 98, i 1]), (a [o, s 1 98, i 1, S 8294 0 0 1 1 3, i 4, N]), 3)] 4))
open ckS in
noncomputable def ckS.b50 : Nat × Blk := (8348, (.cells 1 (.byt 221 259927577993836022085751250829678171181393470925377865139852819675563226713209026172751650253101929288201859997289246340688410470285496574929368270728204522535666435870868480666828714861175211206042152207126070436785580320843186367278717300169799566172518064098921943416469919518522212091393294961666486598038120703523211449955193770450017591111859871218238300562001243294452676363011374257713304988848420963038911249811831882582330725522864638572271761931277479613967843527066236296769118922552126901674141199343618750997151703553) 0 13 10 0 false false))
open ckS in
noncomputable def ckS.b51 : Nat × Blk := (441, (.cells 0 (.lst 87 [i 1, o, S 435 0 0 13 13 1, i 1, o, S 582 0 0 16 16 1, i 1, o, S 735 0 0 16 16 1, i 1, o, S 1329 0 0 13 13 1, i 1, o, S 1716 0 0 24 24 1, i 1, o, S 1722 0 0 25 25 1, i 1, o, S 2026 0 0 16 16 1, i 1, o, S 2642 0 0 13 13 1, i 1, o, S 3029 0 0 24 24 1, i 1, o, S 3035 0 0 25 25 1, i 1, o, S 3339 0 0 16 16 1, i 1, o, S 3436 0 0 16 16 1, i 1, o, S 4025 0 0 13 13 1, i 1, o, S 4412 0 0 24 24 1, i 1, o, S 4418 0 0 25 25 1, i 1, o, S 4722 0 0 16 16 1, i 2, i 1, N, i 1, i 1, S 8344 0 0 13 13 1, i 1, i 1, S 8388 0 0 13 13 1, i 1, i 1, S 8495 0 0 16 16 1, i 1, i 1, S 8587 0 0 24 24 1, i 1, i 1, S 8679 0 0 25 25 1, i 1, i 1, S 8771 0 0 24 24 1, i 1, i 1, S 8863 0 0 25 25 1, i 1, i 1, S 8955 0 0 24 24 1, i 1, i 1, S 9047 0 0 25 25 1, i 1, i 1, S 9110 0 0 16 16 1, i 1, i 1, S 9166 0 0 16 16 1, i 3, o, N]) 0 3 28 0 false false))
open ckS in
noncomputable def ckS.b52 : Nat × Blk := (8587, (B 24 24519928739614503124695997788886127144537787169476050944))
open ckS in
noncomputable def ckS.b53 : Nat × Blk := (8679, (B 25 12554203495218079607260325575567302747373596374054534709760))
open ckS in
noncomputable def ckS.b54 : Nat × Blk := (8771, (B 24 24519928739760953970731178901220047668150328687008808960))
open ckS in
noncomputable def ckS.b55 : Nat × Blk := (8863, (B 25 12554203494397078408126615600838912986032910281925529240320))
open ckS in
noncomputable def ckS.b56 : Nat × Blk := (8955, (B 24 24519928739568825725257676333165822500868260528386736128))
open ckS in
noncomputable def ckS.b57 : Nat × Blk := (9047, (B 25 12554203494419369227628785527250361219754848554013727785216))
open ckS in
noncomputable def ckS.b58 : Nat × Blk := (9731, (.map 0 [((a [o, s 1 97]), i 3, 0), ((a [o, s 1 98]), i 1, 1)] 2))
open ckS in
noncomputable def ckS.b59 : Nat × Blk := (9735, (B 221 259927577993836022085751250829678171181393470925377865139852819675563226713209026172751650253101929288201859997289246340688410470285496574929368270728204522535666435870868480666828714861175211206042152207126070436785580320843186367278717300169799566172518064098921943416469919518522212091393294961666486598038120703523211449955193770450017591111859871218238300562001243294452676363011374257713304988848420963038911249811831882582330725522864638572271761931277479613967843527066236296769118922552126901674141199343618750997151703553))
open ckS in
noncomputable def ckS.b60 : Nat × Blk := (9451, (L 8 [i 10000, i 1, S 9469 15 0 295 295 1, S 9622 10 0 221 221 1, N, N, o, S 9471 28 0 29 29 3]))
open ckS in
noncomputable def ckS.b61 : Nat × Blk := (9469, (.cells 1 (.byt 295 4213177857983241712894721505157587136609109489562768853972679579243480418658011517828420942311068408992548390539760651615899507791012873399889040096133932650665316552140886373599495980632692883777977567162988843132170492554327654885913727552203853348438586435970138074340842150636255645334300502997561025871316866579501365565979723221778024630689119925192253440477262117163885450757110343897408738626928247438876378529650769424996329223490823638018414168592947633078230825986024948932356236270886550592738406972595239999920953725901724225083611037187570415830337247655544738948600624786402817950384514908071304097474023271528276087225937537197916542846049753737286097759347812642108152598097034470735646646785) 0 13 15 0 false false))
open ckS in
noncomputable def ckS.b62 : Nat × Blk := (9622, (.cells 1 (.byt 221 259927577993836022085751250829678171181393470925377865139852819675563226713209026172751650253101929288201859997289246340688410470285496574929368270728204522535666435870868480666828714861175211206042152207126070436785580320843186367278717300169799566172518064098921943416469919518522212091393294961666486598038120703523211449955193770450017591111859871218238300562001243294452676363011374257713304988848420963038911249811831882582330725522864638572271761931277479613967843527066236296769118922552126901674141199343618750997151703553) 0 13 10 0 false false))
open ckS in
noncomputable def ckS.b63 : Nat × Blk := (9471, (.cells 0 (.lst 87 [i 1, o, S 9464 0 0 13 13 1, i 1, o, S 9475 0 0 16 16 1, i 1, o, S 9484 0 0 16 16 1, i 1, o, S 9493 0 0 13 13 1, i 1, o, S 9502 0 0 24 24 1, i 1, o, S 9511 0 0 25 25 1, i 1, o, S 9520 0 0 16 16 1, i 1, o, S 9529 0 0 13 13 1, i 1, o, S 9538 0 0 24 24 1, i 1, o, S 9547 0 0 25 25 1, i 1, o, S 9556 0 0 16 16 1, i 1, o, S 9565 0 0 16 16 1, i 1, o, S 9574 0 0 13 13 1, i 1, o, S 9583 0 0 24 24 1, i 1, o, S 9592 0 0 25 25 1, i 1, o, S 9601 0 0 16 16 1, i 2, i 1, N, i 1, i 1, S 9617 0 0 13 13 1, i 1, i 1, S 9627 0 0 13 13 1, i 1, i 1, S 9636 0 0 16 16 1, i 1, i 1, S 9645 0 0 24 24 1, i 1, i 1, S 9654 0 0 25 25 1, i 1, i 1, S 9663 0 0 24 24 1, i 1, i 1, S 9672 0 0 25 25 1, i 1, i 1, S 9681 0 0 24 24 1, i 1, i 1, S 9690 0 0 25 25 1, i 1, i 1, S 9699 0 0 16 16 1, i 1, i 1, S 9708 0 0 16 16 1, i 3, o, N]) 0 3 28 0 false false))
open ckS in
noncomputable def ckS.b64 : Nat × Blk := (9502, (B 24 24519928739614503124695997788886127144537787169476050944))
open ckS in
noncomputable def ckS.b65 : Nat × Blk := (9511, (B 25 12554203495218079607260325575567302747373596374054534709760))
open ckS in
noncomputable def ckS.b66 : Nat × Blk := (9538, (B 24 24519928739760953970731178901220047668150328687008808960))
open ckS in
noncomputable def ckS.b67 : Nat × Blk := (9547, (B 25 12554203494397078408126615600838912986032910281925529240320))
open ckS in
noncomputable def ckS.b68 : Nat × Blk := (9583, (B 24 24519928739568825725257676333165822500868260528386736128))
open ckS in
noncomputable def ckS.b69 : Nat × Blk := (9592, (B 25 12554203494419369227628785527250361219754848554013727785216))
open ckS in
noncomputable def ckS.b70 : Nat × Blk := (9645, (B 24 24519928739614503124695997788886127144537787169476050944))
open ckS in
noncomputable def ckS.b71 : Nat × Blk := (9654, (B 25 12554203495218079607260325575567302747373596374054534709760))
open ckS in
noncomputable def ckS.b72 : Nat × Blk := (9663, (B 24 24519928739760953970731178901220047668150328687008808960))
open ckS in
noncomputable def ckS.b73 : Nat × Blk := (9672, (B 25 12554203494397078408126615600838912986032910281925529240320))
open ckS in
noncomputable def ckS.b74 : Nat × Blk := (9681, (B 24 24519928739568825725257676333165822500868260528386736128))
open ckS in
noncomputable def ckS.b75 : Nat × Blk := (9690, (B 25 12554203494419369227628785527250361219754848554013727785216))
open ckS in
noncomputable def ckS.b76 : Nat × Blk := (9738, (B 221 259927577993836022085751250829678171181393470925377865139852819675563226713209026172751650253101929288201859997289246340688410470285496574929368270728204522535666435870868480666828714861175211206042152207126070436785580320843186367278717300169799566172518064098921943416469919518522212091393294961666486598038120703523211449955193770450017591111859871218238300562001243294452676363011374257713304988848420963038911249811831882582330725522864638572271761931277479613967843527066236296769118922552126901674141199343618750997151703553))
open ckS in
noncomputable def ckS.b77 : Nat × Blk := (9741, (.loop 8664 .busy none 49 (v [(0, P 104), (2, M), (3, o), (4, P 9733), (5, S 9735 0 0 221 221 1), (6, o), (7, P 9736), (12, P 104), (13, P 9451), (14, f), (15, P 9722), (16, P 9727), (17, m 9728), (18, m 9729), (19, (a [P 9722, P 9727, m 9728, m 9729])), (20, P 104), (21, m 9730), (22, m 9731), (23, (a y41)), (24, P 9732), (25, (.tup [S 9735 0 0 221 221 1, o])), (26, P 104), (27, P 104), (28, i 1), (29, (.tup [S 9735 0 0 221 221 1, o])), (30, S 9735 0 0 221 221 1), (31, o), (32, S 9735 0 0 221 221 1), (33, (.fn (.func 157) [] [P 9739]))]) [(q 34), (q 35)] (zz 49 [1, 1, 1, 1, 1, 1, 1, 0, 1, 1, 0]) (zz 49 [1, 1, 1, 1, 1, 1, 1, 0, 1, 1, 1]) (q 9740)))
open ckS in
noncomputable def ckS.b78 : Nat × Blk := (9747, (.loop 8670 .busy none 157 (v [(0, (.yield (q 9741))), (1, P 9739), (2, P 9742), (3, P 9743), (6, S 9738 0 0 221 221 1), (7, (.fn (.func 232) [] [P 9744, P 9745]))]) [(q 8), (q 9)] (zz 157 [1, 1, 1, 1, 0]) (zz 157 [1, 1, 1, 1, 1]) (q 9746)))
open ckS in
noncomputable def ckS.b79 : Nat × Blk := (9178, (L 8 [i 10000, i 1, S 9196 15 0 295 295 1, S 9349 10 0 221 221 1, N, N, o, S 9198 28 0 29 29 3]))
open ckS in
noncomputable def ckS.b80 : Nat × Blk := (9196, (.cells 1 (.byt 295 4213177857983241712894721505157587136609109489562768853972679579243480418658011517828420942311068408992548390539760651615899507791012873399889040096133932650665316552140886373599495980632692883777977567162988843132170492554327654885913727552203853348438586435970138074340842150636255645334300502997561025871316866579501365565979723221778024630689119925192253440477262117163885450757110343897408738626928247438876378529650769424996329223490823638018414168592947633078230825986024948932356236270886550592738406972595239999920953725901724225083611037187570415830337247655544738948600624786402817950384514908071304097474023271528276087225937537197916542846049753737286097759347812642108152598097034470735646646785) 0 13 15 0 false false))
open ckS in
noncomputable def ckS.b81 : Nat × Blk := (9349, (.cells 1 (.byt 221 259927577993836022085751250829678171181393470925377865139852819675563226713209026172751650253101929288201859997289246340688410470285496574929368270728204522535666435870868480666828714861175211206042152207126070436785580320843186367278717300169799566172518064098921943416469919518522212091393294961666486598038120703523211449955193770450017591111859871218238300562001243294452676363011374257713304988848420963038911249811831882582330725522864638572271761931277479613967843527066236296769118922552126901674141199343618750997151703553) 0 13 10 0 false false))
open ckS in
noncomputable def ckS.b82 : Nat × Blk := (9198, (.cells 0 (.lst 87 [i 1, o, S 9191 0 0 13 13 1, i 1, o, S 9202 0 0 16 16 1, i 1, o, S 9211 0 0 16 16 1, i 1, o, S 9220 0 0 13 13 1, i 1, o, S 9229 0 0 24 24 1, i 1, o, S 9238 0 0 25 25 1, i 1, o, S 9247 0 0 16 16 1, i 1, o, S 9256 0 0 13 13 1, i 1, o, S 9265 0 0 24 24 1, i 1, o, S 9274 0 0 25 25 1, i 1, o, S 9283 0 0 16 16 1, i 1, o, S 9292 0 0 16 16 1, i 1, o, S 9301 0 0 13 13 1, i 1, o, S 9310 0 0 24 24 1, i 1, o, S 9319 0 0 25 25 1, i 1, o, S 9328 0 0 16 16 1, i 2, i 1, N, i 1, i 1, S 9344 0 0 13 13 1, i 1, i 1, S 9354 0 0 13 13 1, i 1, i 1, S 9363 0 0 16 16 1, i 1, i 1, S 9372 0 0 24 24 1, i 1, i 1, S 9381 0 0 25 25 1, i 1, i 1, S 9390 0 0 24 24 1, i 1, i 1, S 9399 0 0 25 25 1, i 1, i 1, S 9408 0 0 24 24 1, i 1, i 1, S 9417 0 0 25 25 1, i 1, i 1, S 9426 0 0 16 16 1, i 1, i 1, S 9435 0 0 16 16 1, i 3, o, N]) 0 3 28 0 false false))
open ckS in
noncomputable def ckS.b83 : Nat × Blk := (9229, (B 24 24519928739614503124695997788886127144537787169476050944))
open ckS in
noncomputable def ckS.b84 : Nat × Blk := (9238, (B 25 12554203495218079607260325575567302747373596374054534709760))
open ckS in
noncomputable def ckS.b85 : Nat × Blk := (9265, (B 24 24519928739760953970731178901220047668150328687008808960))
open ckS in
noncomputable def ckS.b86 : Nat × Blk := (9274, (B 25 12554203494397078408126615600838912986032910281925529240320))
open ckS in
noncomputable def ckS.b87 : Nat × Blk := (9310, (B 24 24519928739568825725257676333165822500868260528386736128))
open ckS in
noncomputable def ckS.b88 : Nat × Blk := (9319, (B 25 12554203494419369227628785527250361219754848554013727785216))
open ckS in
noncomputable def ckS.b89 : Nat × Blk := (9372, (B 24 24519928739614503124695997788886127144537787169476050944))
open ckS in
noncomputable def ckS.b90 : Nat × Blk := (9381, (B 25 12554203495218079607260325575567302747373596374054534709760))
open ckS in
noncomputable def ckS.b91 : Nat × Blk := (9390, (B 24 24519928739760953970731178901220047668150328687008808960))
open ckS in
noncomputable def ckS.b92 : Nat × Blk := (9399, (B 25 12554203494397078408126615600838912986032910281925529240320))
open ckS in
noncomputable def ckS.b93 : Nat × Blk := (9408, (B 24 24519928739568825725257676333165822500868260528386736128))
open ckS in
noncomputable def ckS.b94 : Nat × Blk := (9417, (B 25 12554203494419369227628785527250361219754848554013727785216))
open ckS in
noncomputable def ckS.b95 : Nat × Blk := (9721, (.map 0 [((a [o, s 1 97, i 1]), (a y15), 0), ((a [o, s 1 97, i 2]), (a y26), 1), ((a [o, s 1 97, i 3]), (a y28), 2), ((a [o, s 1 98, i 1]), (a y29), 3)] 4))
open ckS in
noncomputable def ckS.b96 : Nat × Blk := (11387, (.map 0 [((.ifc 143 (P 10461)), (a [o, s 1 97, i 2, o]), 0), ((.ifc 143 (P 10939)), (a [o, s 1 97, i 3, o]), 1), ((.ifc 143 (P 11417)), (a [o, s 1 98, i 1, o]), 2)] 3))
open ckS in
noncomputable def ckS.b97 : Nat × Blk := (11388, (.map 0 [((a [o, s 1 97, i 2, o]), P 10461, 0), ((a [o, s 1 97, i 3, o]), P 10939, 1), ((a [o, s 1 98, i 1, o]), P 11417, 2)] 3))
open ckS in
noncomputable def ckS.b98 : Nat × Blk := (11390, (.map 0 [((a [o, s 1 97, i 2]), t, 0), ((a [o, s 1 97, i 3]), t, 1), ((a [o, s 1 98, i 1]), t, 2)] 3))
open ckS in
noncomputable def ckS.b99 : Nat × Blk := (9728, (.map 0 [((a [o, s 1 97, i 1]), (a [o, e, o, o]), 0), ((a [o, s 1 97, i 2]), (a [o, s 1 97, i 2, o]), 1), ((a [o, s 1 97, i 3]), (a [o, s 1 97, i 3, o]), 2), ((a [o, s 1 98, i 1]), (a [o, s 1 98, i 1, o]), 3)] 4))
open ckS in
noncomputable def ckS.b100 : Nat × Blk := (9729, (.map 0 [((a [o, s 1 97, i 1]), N, 0), ((a [o, s 1 97, i 2]), S 10420 0 0 1 1 20, 1), ((a [o, s 1 97, i 3]), S 10898 0 0 1 1 20, 2), ((a [o, s 1 98, i 1]), S 11376 0 0 1 1 20, 3)] 4))
open ckS in
noncomputable def ckS.b101 : Nat × Blk := (8348, (.cells 1 (.byt 233 20593584391234759078539791420812775116061257481890326702634948898241272903913437848588200188258722285092177165673736770993013263859950567638609864958653624266440100730301465241610762072797874482560798941785164356513227858261601957583916544981570708942569179132720919684085915343156248436137275475030117315553849812504522756982190795095375607753900762842897256409707737917407996806405144193965227546823195045496063234085289690914309805404792845025248649139300665924408454996894619949845345565166552776702791298207544374093516948148653240467525179509584015917410) 0 13 11 0 false false))
open ckS in
noncomputable def ckS.b102 : Nat × Blk := (441, (.cells 0 (.lst 90 [i 1, o, S 435 0 0 13 13 1, i 1, o, S 582 0 0 16 16 1, i 1, o, S 735 0 0 16 16 1, i 1, o, S 1329 0 0 13 13 1, i 1, o, S 1716 0 0 24 24 1, i 1, o, S 1722 0 0 25 25 1, i 1, o, S 2026 0 0 16 16 1, i 1, o, S 2642 0 0 13 13 1, i 1, o, S 3029 0 0 24 24 1, i 1, o, S 3035 0 0 25 25 1, i 1, o, S 3339 0 0 16 16 1, i 1, o, S 3436 0 0 16 16 1, i 1, o, S 4025 0 0 13 13 1, i 1, o, S 4412 0 0 24 24 1, i 1, o, S 4418 0 0 25 25 1, i 1, o, S 4722 0 0 16 16 1, i 2, i 1, N, i 1, i 1, S 8344 0 0 13 13 1, i 1, i 1, S 8388 0 0 13 13 1, i 1, i 1, S 8495 0 0 16 16 1, i 1, i 1, S 8587 0 0 24 24 1, i 1, i 1, S 8679 0 0 25 25 1, i 1, i 1, S 8771 0 0 24 24 1, i 1, i 1, S 8863 0 0 25 25 1, i 1, i 1, S 8955 0 0 24 24 1, i 1, i 1, S 9047 0 0 25 25 1, i 1, i 1, S 9110 0 0 16 16 1, i 1, i 1, S 9166 0 0 16 16 1, i 3, o, N, i 1, i 1, S 11667 0 0 12 12 1]) 0 3 29 0 false false))
open ckS in
noncomputable def ckS.b103 : Nat × Blk := (12247, (.map 0 [((a [o, s 1 97]), i 3, 0), ((a [o, s 1 98]), i 1, 1)] 2))
open ckS in
noncomputable def ckS.b104 : Nat × Blk := (12251, (B 233 20593584391234759078539791420812775116061257481890326702634948898241272903913437848588200188258722285092177165673736770993013263859950567638609864958653624266440100730301465241610762072797874482560798941785164356513227858261601957583916544981570708942569179132720919684085915343156248436137275475030117315553849812504522756982190795095375607753900762842897256409707737917407996806405144193965227546823195045496063234085289690914309805404792845025248649139300665924408454996894619949845345565166552776702791298207544374093516948148653240467525179509584015917410))
open ckS in
noncomputable def ckS.b105 : Nat × Blk := (11958, (L 8 [i 10000, i 1, S 11976 15 0 295 295 1, S 12129 11 0 233 233 1, N, N, o, S 11978 29 0 30 30 3]))
open ckS in
noncomputable def ckS.b106 : Nat × Blk := (11976, (.cells 1 (.byt 295 4213177857983241712894721505157587136609109489562768853972679579243480418658011517828420942311068408992548390539760651615899507791012873399889040096133932650665316552140886373599495980632692883777977567162988843132170492554327654885913727552203853348438586435970138074340842150636255645334300502997561025871316866579501365565979723221778024630689119925192253440477262117163885450757110343897408738626928247438876378529650769424996329223490823638018414168592947633078230825986024948932356236270886550592738406972595239999920953725901724225083611037187570415830337247655544738948600624786402817950384514908071304097474023271528276087225937537197916542846049753737286097759347812642108152598097034470735646646785) 0 13 15 0 false false))
open ckS in
noncomputable def ckS.b107 : Nat × Blk := (12129, (.cells 1 (.byt 233 20593584391234759078539791420812775116061257481890326702634948898241272903913437848588200188258722285092177165673736770993013263859950567638609864958653624266440100730301465241610762072797874482560798941785164356513227858261601957583916544981570708942569179132720919684085915343156248436137275475030117315553849812504522756982190795095375607753900762842897256409707737917407996806405144193965227546823195045496063234085289690914309805404792845025248649139300665924408454996894619949845345565166552776702791298207544374093516948148653240467525179509584015917410) 0 13 11 0 false false))
open ckS in
noncomputable def ckS.b108 : Nat × Blk := (11978, (.cells 0 (.lst 90 [i 1, o, S 11971 0 0 13 13 1, i 1, o, S 11982 0 0 16 16 1, i 1, o, S 11991 0 0 16 16 1, i 1, o, S 12000 0 0 13 13 1, i 1, o, S 12009 0 0 24 24 1, i 1, o, S 12018 0 0 25 25 1, i 1, o, S 12027 0 0 16 16 1, i 1, o, S 12036 0 0 13 13 1, i 1, o, S 12045 0 0 24 24 1, i 1, o, S 12054 0 0 25 25 1, i 1, o, S 12063 0 0 16 16 1, i 1, o, S 12072 0 0 16 16 1, i 1, o, S 12081 0 0 13 13 1, i 1, o, S 12090 0 0 24 24 1, i 1, o, S 12099 0 0 25 25 1, i 1, o, S 12108 0 0 16 16 1, i 2, i 1, N, i 1, i 1, S 12124 0 0 13 13 1, i 1, i 1, S 12134 0 0 13 13 1, i 1, i 1, S 12143 0 0 16 16 1, i 1, i 1, S 12152 0 0 24 24 1, i 1, i 1, S 12161 0 0 25 25 1, i 1, i 1, S 12170 0 0 24 24 1, i 1, i 1, S 12179 0 0 25 25 1, i 1, i 1, S 12188 0 0 24 24 1, i 1, i 1, S 12197 0 0 25 25 1, i 1, i 1, S 12206 0 0 16 16 1, i 1, i 1, S 12215 0 0 16 16 1, i 3, o, N, i 1, i 1, S 12231 0 0 12 12 1]) 0 3 29 0 false false))
open ckS in
noncomputable def ckS.b109 : Nat × Blk := (12009, (B 24 24519928739614503124695997788886127144537787169476050944))
open ckS in
noncomputable def ckS.b110 : Nat × Blk := (12018, (B 25 12554203495218079607260325575567302747373596374054534709760))
open ckS in
noncomputable def ckS.b111 : Nat × Blk := (12045, (B 24 24519928739760953970731178901220047668150328687008808960))
open ckS in
noncomputable def ckS.b112 : Nat × Blk := (12054, (B 25 12554203494397078408126615600838912986032910281925529240320))
open ckS in
noncomputable def ckS.b113 : Nat × Blk := (12090, (B 24 24519928739568825725257676333165822500868260528386736128))
open ckS in
noncomputable def ckS.b114 : Nat × Blk := (12099, (B 25 12554203494419369227628785527250361219754848554013727785216))
open ckS in
noncomputable def ckS.b115 : Nat × Blk := (12152, (B 24 24519928739614503124695997788886127144537787169476050944))
open ckS in
noncomputable def ckS.b116 : Nat × Blk := (12161, (B 25 12554203495218079607260325575567302747373596374054534709760))
open ckS in
noncomputable def ckS.b117 : Nat × Blk := (12170, (B 24 24519928739760953970731178901220047668150328687008808960))
open ckS in
noncomputable def ckS.b118 : Nat × Blk := (12179, (B 25 12554203494397078408126615600838912986032910281925529240320))
open ckS in
noncomputable def ckS.b119 : Nat × Blk := (12188, (B 24 24519928739568825725257676333165822500868260528386736128))
open ckS in
noncomputable def ckS.b120 : Nat × Blk := (12197, (B 25 12554203494419369227628785527250361219754848554013727785216))
open ckS in
noncomputable def ckS.b121 : Nat × Blk := (12254, (B 233 20593584391234759078539791420812775116061257481890326702634948898241272903913437848588200188258722285092177165673736770993013263859950567638609864958653624266440100730301465241610762072797874482560798941785164356513227858261601957583916544981570708942569179132720919684085915343156248436137275475030117315553849812504522756982190795095375607753900762842897256409707737917407996806405144193965227546823195045496063234085289690914309805404792845025248649139300665924408454996894619949845345565166552776702791298207544374093516948148653240467525179509584015917410))
open ckS in
noncomputable def ckS.b122 : Nat × Blk := (12257, (.loop 10910 .busy none 49 (v [(0, P 104), (2, M), (3, o), (4, P 12249), (5, S 12251 0 0 233 233 1), (6, o), (7, P 12252), (12, P 104), (13, P 11958), (14, f), (15, P 12238), (16, P 12243), (17, m 12244), (18, m 12245), (19, (a y56)), (20, P 104), (21, m 12246), (22, m 12247), (23, (a y35)), (24, P 12248), (25, (.tup [S 12251 0 0 233 233 1, o])), (26, P 104), (27, P 104), (28, i 1), (29, (.tup [S 12251 0 0 233 233 1, o])), (30, S 12251 0 0 233 233 1), (31, o), (32, S 12251 0 0 233 233 1), (33, (.fn (.func 157) [] [P 12255]))]) [(q 34), (q 35)] (zz 49 [1, 1, 1, 1, 1, 1, 1, 0, 1, 1, 0]) (zz 49 [1, 1, 1, 1, 1, 1, 1, 0, 1, 1, 1]) (q 12256)))
open ckS in
noncomputable def ckS.b123 : Nat × Blk := (12263, (.loop 10916 .busy none 157 (v [(0, (.yield (q 12257))), (1, P 12255), (2, P 12258), (3, P 12259), (6, S 12254 0 0 233 233 1), (7, (.fn (.func 232) [] [P 12260, P 12261]))]) [(q 8), (q 9)] (zz 157 [1, 1, 1, 1, 0]) (zz 157 [1, 1, 1, 1, 1]) (q 12262)))
open ckS in
noncomputable def ckS.b124 : Nat × Blk := (11676, (L 8 [i 10000, i 1, S 11694 15 0 295 295 1, S 11847 11 0 233 233 1, N, N, o, S 11696 29 0 30 30 3]))
open ckS in
noncomputable def ckS.b125 : Nat × Blk := (11694, (.cells 1 (.byt 295 4213177857983241712894721505157587136609109489562768853972679579243480418658011517828420942311068408992548390539760651615899507791012873399889040096133932650665316552140886373599495980632692883777977567162988843132170492554327654885913727552203853348438586435970138074340842150636255645334300502997561025871316866579501365565979723221778024630689119925192253440477262117163885450757110343897408738626928247438876378529650769424996329223490823638018414168592947633078230825986024948932356236270886550592738406972595239999920953725901724225083611037187570415830337247655544738948600624786402817950384514908071304097474023271528276087225937537197916542846049753737286097759347812642108152598097034470735646646785) 0 13 15 0 false false))
open ckS in
noncomputable def ckS.b126 : Nat × Blk := (11847, (.cells 1 (.byt 233 20593584391234759078539791420812775116061257481890326702634948898241272903913437848588200188258722285092177165673736770993013263859950567638609864958653624266440100730301465241610762072797874482560798941785164356513227858261601957583916544981570708942569179132720919684085915343156248436137275475030117315553849812504522756982190795095375607753900762842897256409707737917407996806405144193965227546823195045496063234085289690914309805404792845025248649139300665924408454996894619949845345565166552776702791298207544374093516948148653240467525179509584015917410) 0 13 11 0 false false))
open ckS in
noncomputable def ckS.b127 : Nat × Blk := (11696, (.cells 0 (.lst 90 [i 1, o, S 11689 0 0 13 13 1, i 1, o, S 11700 0 0 16 16 1, i 1, o, S 11709 0 0 16 16 1, i 1, o, S 11718 0 0 13 13 1, i 1, o, S 11727 0 0 24 24 1, i 1, o, S 11736 0 0 25 25 1, i 1, o, S 11745 0 0 16 16 1, i 1, o, S 11754 0 0 13 13 1, i 1, o, S 11763 0 0 24 24 1, i 1, o, S 11772 0 0 25 25 1, i 1, o, S 11781 0 0 16 16 1, i 1, o, S 11790 0 0 16 16 1, i 1, o, S 11799 0 0 13 13 1, i 1, o, S 11808 0 0 24 24 1, i 1, o, S 11817 0 0 25 25 1, i 1, o, S 11826 0 0 16 16 1, i 2, i 1, N, i 1, i 1, S 11842 0 0 13 13 1, i 1, i 1, S 11852 0 0 13 13 1, i 1, i 1, S 11861 0 0 16 16 1, i 1, i 1, S 11870 0 0 24 24 1, i 1, i 1, S 11879 0 0 25 25 1, i 1, i 1, S 11888 0 0 24 24 1, i 1, i 1, S 11897 0 0 25 25 1, i 1, i 1, S 11906 0 0 24 24 1, i 1, i 1, S 11915 0 0 25 25 1, i 1, i 1, S 11924 0 0 16 16 1, i 1, i 1, S 11933 0 0 16 16 1, i 3, o, N, i 1, i 1, S 11949 0 0 12 12 1]) 0 3 29 0 false false))
open ckS in
noncomputable def ckS.b128 : Nat × Blk := (11727, (B 24 24519928739614503124695997788886127144537787169476050944))
open ckS in
noncomputable def ckS.b129 : Nat × Blk := (11736, (B 25 12554203495218079607260325575567302747373596374054534709760))
open ckS in
noncomputable def ckS.b130 : Nat × Blk := (11763, (B 24 24519928739760953970731178901220047668150328687008808960))
open ckS in
noncomputable def ckS.b131 : Nat × Blk := (11772, (B 25 12554203494397078408126615600838912986032910281925529240320))
open ckS in
noncomputable def ckS.b132 : Nat × Blk := (11808, (B 24 24519928739568825725257676333165822500868260528386736128))
open ckS in
noncomputable def ckS.b133 : Nat × Blk := (11817, (B 25 12554203494419369227628785527250361219754848554013727785216))
open ckS in
noncomputable def ckS.b134 : Nat × Blk := (11870, (B 24 24519928739614503124695997788886127144537787169476050944))
open ckS in
noncomputable def ckS.b135 : Nat × Blk := (11879, (B 25 12554203495218079607260325575567302747373596374054534709760))
open ckS in
noncomputable def ckS.b136 : Nat × Blk := (11888, (B 24 24519928739760953970731178901220047668150328687008808960))
open ckS in
noncomputable def ckS.b137 : Nat × Blk := (11897, (B 25 12554203494397078408126615600838912986032910281925529240320))
open ckS in
noncomputable def ckS.b138 : Nat × Blk := (11906, (B 24 24519928739568825725257676333165822500868260528386736128))
open ckS in
noncomputable def ckS.b139 : Nat × Blk := (11915, (B 25 12554203494419369227628785527250361219754848554013727785216))
open ckS in
noncomputable def ckS.b140 : Nat × Blk := (9730, (.map 0 [((a [o, s 1 97]), (a [o, s 1 97, i 3]), 0)] 2))
open ckS in
noncomputable def ckS.b141 : Nat × Blk := (12237, (.map 0 [((a [o, s 1 97, i 1]), (a y42), 0), ((a [o, s 1 97, i 2]), (a y62), 1), ((a [o, s 1 97, i 3]), (a y63), 2), ((a [o, s 1 98, i 1]), (a [o, s 1 98, i 1, S 13972 0 0 1 1 3, i 4, N]), 3)] 4))
open ckS in
noncomputable def ckS.b142 : Nat × Blk := (13903, (.map 0 [((.ifc 143 (P 12977)), (a [o, s 1 97, i 2, o]), 0), ((.ifc 143 (P 13455)), (a [o, s 1 97, i 3, o]), 1), ((.ifc 143 (P 13933)), (a [o, s 1 98, i 1, o]), 2)] 3))
open ckS in
noncomputable def ckS.b143 : Nat × Blk := (13904, (.map 0 [((a [o, s 1 97, i 2, o]), P 12977, 0), ((a [o, s 1 97, i 3, o]), P 13455, 1), ((a [o, s 1 98, i 1, o]), P 13933, 2)] 3))
open ckS in
noncomputable def ckS.b144 : Nat × Blk := (13906, (.map 0 [((a [o, s 1 97, i 2]), t, 0), ((a [o, s 1 97, i 3]), t, 1), ((a [o, s 1 98, i 1]), t, 2)] 3))
open ckS in
noncomputable def ckS.b145 : Nat × Blk := (12244, (.map 0 [((a [o, s 1 97, i 1]), (a [o, e, o, o]), 0), ((a [o, s 1 97, i 2]), (a [o, s 1 97, i 2, o]), 1), ((a [o, s 1 97, i 3]), (a [o, s 1 97, i 3, o]), 2), ((a [o, s 1 98, i 1]), (a [o, s 1 98, i 1, o]), 3)] 4))
open ckS in
noncomputable def ckS.b146 : Nat × Blk := (12245, (.map 0 [((a [o, s 1 97, i 1]), N, 0), ((a [o, s 1 97, i 2]), S 12936 0 0 1 1 20, 1), ((a [o, s 1 97, i 3]), S 13414 0 0 1 1 20, 2), ((a [o, s 1 98, i 1]), S 13892 0 0 1 1 20, 3)] 4))
open ckS in
noncomputable def ckS.b147 : Nat × Blk := (12246, (.map 0 [((a [o, s 1 97]), (a [o, s 1 97, i 3]), 0)] 2))
open ckS in
noncomputable def ckS.b148 : Nat × Blk := (14778, (B 233 20593584391234759078539791420812775116061257481890326702634948898241272903913437848588200188258722285092177165673736770993013263859950567638609864958653624266440100730301465241610762072797874482560798941785164356513227858261601957583916544981570708942569179132720919684085915343156248436137275475030117315553849812504522756982190795095375607753900762842897256409707737917407996806405144193965227546823195045496063234085289690914309805404792845025248649139300665924408454996894619949845345565166552776702791298207544374093516948148653240467525179509584015917410))
open ckS in
noncomputable def ckS.b149 : Nat × Blk := (14781, (B 295 4213177857983241712894721505157587136609109489562768853972679579243480418658011517828420942311068408992548390539760651615899507791012873399889040096133932650665316552140886373599495980632692883777977567162988843132170492554327654885913727552203853348438586435970138074340842150636255645334300502997561025871316866579501365565979723221778024630689119925192253440477262117163885450757110343897408738626928247438876378529650769424996329223490823638018414168592947633078230825986024948932356236270886550592738406972595239999920953725901724225083611037187570415830337247655544738948600624786402817950384514908071304097474023271528276087225937537197916542846049753737286097759347812642108152598097034470735646646785))
open ckS in
noncomputable def ckS.b150 : Nat × Blk := (14788, (.map 0 [((a [o, s 1 97, i 1]), (a [o, s 1 97, i 1, (.sl (q 14784) 0 0 0 0 true 3), i 1, N]), 0), ((a [o, s 1 97, i 2]), (a [o, s 1 97, i 2, S 14785 0 0 1 1 3, i 2, N]), 1), ((a [o, s 1 97, i 3]), (a [o, s 1 97, i 3, S 14786 0 0 1 1 3, i 3, N]), 2), ((a [o, s 1 98, i 1]), (a [o, s 1 98, i 1, S 14787 0 0 1 1 3, i 4, N]), 3)] 4))
open ckS in
noncomputable def ckS.b151 : Nat × Blk := (14790, (.cells 0 (.lst 24 [o, s 1 97, i 1, (.sl (q 14791) 0 0 0 0 true 3), i 1, N, o, s 1 97, i 2, S 14792 0 0 1 1 3, i 2, N, o, s 1 97, i 3, S 14793 0 0 1 1 3, i 3, N, o, s 1 98, i 1, S 14794 0 0 1 1 3, i 4, N]) 0 0 3 3 false false))
open ckS in
noncomputable def ckS.b152 : Nat × Blk := (14917, (.map 0 [((a [o, s 1 97, i 1]), (a [o, s 1 97, i 1, (.sl (q 14913) 0 0 0 0 true 3), i 1, N]), 0), ((a [o, s 1 97, i 2]), (a [o, s 1 97, i 2, S 14914 0 0 1 1 3, i 2, N]), 1), ((a [o, s 1 97, i 3]), (a [o, s 1 97, i 3, S 14915 0 0 1 1 3, i 3, N]), 2), ((a [o, s 1 98, i 1]), (a [o, s 1 98, i 1, S 14916 0 0 1 1 3, i 4, N]), 3)] 4))
open ckS in
noncomputable def ckS.b153 : Nat × Blk := (16301, (B 156 75727673520064286106985485257169664442412086088484942647353609775843988758916747692409665534370420805202764053182500148342507699955038544036650208543856950023986227564168760806566595887085924286241348933962518044558630877126660057297155232468276189263837585275742223585446445815793823349245827613651435913894077644571443455335338715291513400744474401736457211389710600069379))
open ckS in
noncomputable def ckS.b154 : Nat × Blk := (14970, (.cells 1 (.byt 156 75727673520064286106985485257169664442412086088484942647353609775843988758916747692409665534370420805202764053182500148342507699955038544036650208543856950023986227564168760806566595887085924286241348933962518044558630877126660057297155232468276189263837585275742223585446445815793823349245827613651435913894077644571443455335338715291513400744474401736457211389710600069379) 0 13 7 0 false false))
open ckS in
noncomputable def ckS.b155 : Nat × Blk := (441, (.cells 0 (.lst 120 [i 1, o, S 435 0 0 13 13 1, i 1, o, S 582 0 0 16 16 1, i 1, o, S 735 0 0 16 16 1, i 1, o, S 1329 0 0 13 13 1, i 1, o, S 1716 0 0 24 24 1, i 1, o, S 1722 0 0 25 25 1, i 1, o, S 2026 0 0 16 16 1, i 1, o, S 2642 0 0 13 13 1, i 1, o, S 3029 0 0 24 24 1, i 1, o, S 3035 0 0 25 25 1, i 1, o, S 3339 0 0 16 16 1, i 1, o, S 3436 0 0 16 16 1, i 1, o, S 4025 0 0 13 13 1, i 1, o, S 4412 0 0 24 24 1, i 1, o, S 4418 0 0 25 25 1, i 1, o, S 4722 0 0 16 16 1, i 2, i 1, N, i 1, i 1, S 8344 0 0 13 13 1, i 1, i 1, S 8388 0 0 13 13 1, i 1, i 1, S 8495 0 0 16 16 1, i 1, i 1, S 8587 0 0 24 24 1, i 1, i 1, S 8679 0 0 25 25 1, i 1, i 1, S 8771 0 0 24 24 1, i 1, i 1, S 8863 0 0 25 25 1, i 1, i 1, S 8955 0 0 24 24 1, i 1, i 1, S 9047 0 0 25 25 1, i 1, i 1, S 9110 0 0 16 16 1, i 1, i 1, S 9166 0 0 16 16 1, i 3, o, N, i 1, i 1, S 11667 0 0 12 12 1, i 2, o, N, i 1, o, S 14966 0 0 13 13 1, i 1, o, S 15010 0 0 13 13 1, i 1, o, S 15108 0 0 16 16 1, i 1, o, S 15200 0 0 24 24 1, i 1, o, S 15292 0 0 25 25 1, i 1, o, S 15384 0 0 24 24 1, i 1, o, S 15476 0 0 25 25 1, i 1, o, S 15537 0 0 16 16 1, i 3, o, N]) 0 3 39 0 false false))
open ckS in
noncomputable def ckS.b156 : Nat × Blk := (15200, (B 24 24519928739614503124695997788886127144537787169476050944))
open ckS in
noncomputable def ckS.b157 : Nat × Blk := (15292, (B 25 12554203495218079607260325575567302747373596374054534709760))
open ckS in
noncomputable def ckS.b158 : Nat × Blk := (15384, (B 24 24519928739760953970731178901220047668150328687008808960))
open ckS in
noncomputable def ckS.b159 : Nat × Blk := (15476, (B 25 12554203494397078408126615600838912986032910281925529240320))
open ckS in
noncomputable def ckS.b160 : Nat × Blk := (16298, (B 156 75727673520064286106985485257169664442412086088484942647353609775843988758916747692409665534370420805202764053182500148342507699955038544036650208543856950023986227564168760806566595887085924286241348933962518044558630877126660057297155232468276189263837585275742223585446445815793823349245827613651435913894077644571443455335338715291513400744474401736457211389710600069379))
open ckS in
noncomputable def ckS.b161 : Nat × Blk := (15918, (L 8 [i 10000, o, S 16212 7 0 156 156 1, S 16089 11 0 233 233 1, N, N, o, S 15938 39 0 40 40 3]))
open ckS in
noncomputable def ckS.b162 : Nat × Blk := (16212, (.cells 1 (.byt 156 75727673520064286106985485257169664442412086088484942647353609775843988758916747692409665534370420805202764053182500148342507699955038544036650208543856950023986227564168760806566595887085924286241348933962518044558630877126660057297155232468276189263837585275742223585446445815793823349245827613651435913894077644571443455335338715291513400744474401736457211389710600069379) 0 13 7 0 false false))
open ckS in
noncomputable def ckS.b163 : Nat × Blk := (16089, (.cells 1 (.byt 233 20593584391234759078539791420812775116061257481890326702634948898241272903913437848588200188258722285092177165673736770993013263859950567638609864958653624266440100730301465241610762072797874482560798941785164356513227858261601957583916544981570708942569179132720919684085915343156248436137275475030117315553849812504522756982190795095375607753900762842897256409707737917407996806405144193965227546823195045496063234085289690914309805404792845025248649139300665924408454996894619949845345565166552776702791298207544374093516948148653240467525179509584015917410) 0 13 11 0 false false))
open ckS in
noncomputable def ckS.b164 : Nat × Blk := (15938, (.cells 0 (.lst 120 [i 1, o, S 15931 0 0 13 13 1, i 1, o, S 15942 0 0 16 16 1, i 1, o, S 15951 0 0 16 16 1, i 1, o, S 15960 0 0 13 13 1, i 1, o, S 15969 0 0 24 24 1, i 1, o, S 15978 0 0 25 25 1, i 1, o, S 15987 0 0 16 16 1, i 1, o, S 15996 0 0 13 13 1, i 1, o, S 16005 0 0 24 24 1, i 1, o, S 16014 0 0 25 25 1, i 1, o, S 16023 0 0 16 16 1, i 1, o, S 16032 0 0 16 16 1, i 1, o, S 16041 0 0 13 13 1, i 1, o, S 16050 0 0 24 24 1, i 1, o, S 16059 0 0 25 25 1, i 1, o, S 16068 0 0 16 16 1, i 2, i 1, N, i 1, i 1, S 16084 0 0 13 13 1, i 1, i 1, S 16094 0 0 13 13 1, i 1, i 1, S 16103 0 0 16 16 1, i 1, i 1, S 16112 0 0 24 24 1, i 1, i 1, S 16121 0 0 25 25 1, i 1, i 1, S 16130 0 0 24 24 1, i 1, i 1, S 16139 0 0 25 25 1, i 1, i 1, S 16148 0 0 24 24 1, i 1, i 1, S 16157 0 0 25 25 1, i 1, i 1, S 16166 0 0 16 16 1, i 1, i 1, S 16175 0 0 16 16 1, i 3, o, N, i 1, i 1, S 16191 0 0 12 12 1, i 2, o, N, i 1, o, S 16207 0 0 13 13 1, i 1, o, S 16217 0 0 13 13 1, i 1, o, S 16226 0 0 16 16 1, i 1, o, S 16235 0 0 24 24 1, i 1, o, S 16244 0 0 25 25 1, i 1, o, S 16253 0 0 24 24 1, i 1, o, S 16262 0 0 25 25 1, i 1, o, S 16271 0 0 16 16 1, i 3, o, N]) 0 3 39 0 false false))
open ckS in
noncomputable def ckS.b165 : Nat × Blk := (15969, (B 24 24519928739614503124695997788886127144537787169476050944))
open ckS in
noncomputable def ckS.b166 : Nat × Blk := (15978, (B 25 12554203495218079607260325575567302747373596374054534709760))
open ckS in
noncomputable def ckS.b167 : Nat × Blk := (16005, (B 24 24519928739760953970731178901220047668150328687008808960))
open ckS in
noncomputable def ckS.b168 : Nat × Blk := (16014, (B 25 12554203494397078408126615600838912986032910281925529240320))
open ckS in
noncomputable def ckS.b169 : Nat × Blk := (16050, (B 24 24519928739568825725257676333165822500868260528386736128))
open ckS in
noncomputable def ckS.b170 : Nat × Blk := (16059, (B 25 12554203494419369227628785527250361219754848554013727785216))
open ckS in
noncomputable def ckS.b171 : Nat × Blk := (16112, (B 24 24519928739614503124695997788886127144537787169476050944))
open ckS in
noncomputable def ckS.b172 : Nat × Blk := (16121, (B 25 12554203495218079607260325575567302747373596374054534709760))
open ckS in
noncomputable def ckS.b173 : Nat × Blk := (16130, (B 24 24519928739760953970731178901220047668150328687008808960))
open ckS in
noncomputable def ckS.b174 : Nat × Blk := (16139, (B 25 12554203494397078408126615600838912986032910281925529240320))
open ckS in
noncomputable def ckS.b175 : Nat × Blk := (16148, (B 24 24519928739568825725257676333165822500868260528386736128))
open ckS in
noncomputable def ckS.b176 : Nat × Blk := (16157, (B 25 12554203494419369227628785527250361219754848554013727785216))
open ckS in
noncomputable def ckS.b177 : Nat × Blk := (16235, (B 24 24519928739614503124695997788886127144537787169476050944))
open ckS in
noncomputable def ckS.b178 : Nat × Blk := (16244, (B 25 12554203495218079607260325575567302747373596374054534709760))
open ckS in
noncomputable def ckS.b179 : Nat × Blk := (16253, (B 24 24519928739760953970731178901220047668150328687008808960))
open ckS in
noncomputable def ckS.b180 : Nat × Blk := (16262, (B 25 12554203494397078408126615600838912986032910281925529240320))
open ckS in
noncomputable def ckS.b181 : Nat × Blk := (15549, (L 8 [i 10000, o, S 15843 7 0 156 156 1, S 15720 11 0 233 233 1, N, N, o, S 15569 39 0 40 40 3]))
open ckS in
noncomputable def ckS.b182 : Nat × Blk := (15843, (.cells 1 (.byt 156 75727673520064286106985485257169664442412086088484942647353609775843988758916747692409665534370420805202764053182500148342507699955038544036650208543856950023986227564168760806566595887085924286241348933962518044558630877126660057297155232468276189263837585275742223585446445815793823349245827613651435913894077644571443455335338715291513400744474401736457211389710600069379) 0 13 7 0 false false))
open ckS in
noncomputable def ckS.b183 : Nat × Blk := (15720, (.cells 1 (.byt 233 20593584391234759078539791420812775116061257481890326702634948898241272903913437848588200188258722285092177165673736770993013263859950567638609864958653624266440100730301465241610762072797874482560798941785164356513227858261601957583916544981570708942569179132720919684085915343156248436137275475030117315553849812504522756982190795095375607753900762842897256409707737917407996806405144193965227546823195045496063234085289690914309805404792845025248649139300665924408454996894619949845345565166552776702791298207544374093516948148653240467525179509584015917410) 0 13 11 0 false false))
open ckS in
noncomputable def ckS.b184 : Nat × Blk := (15569, (.cells 0 (.lst 120 [i 1, o, S 15562 0 0 13 13 1, i 1, o, S 15573 0 0 16 16 1, i 1, o, S 15582 0 0 16 16 1, i 1, o, S 15591 0 0 13 13 1, i 1, o, S 15600 0 0 24 24 1, i 1, o, S 15609 0 0 25 25 1, i 1, o, S 15618 0 0 16 16 1, i 1, o, S 15627 0 0 13 13 1, i 1, o, S 15636 0 0 24 24 1, i 1, o, S 15645 0 0 25 25 1, i 1, o, S 15654 0 0 16 16 1, i 1, o, S 15663 0 0 16 16 1, i 1, o, S 15672 0 0 13 13 1, i 1, o, S 15681 0 0 24 24 1, i 1, o, S 15690 0 0 25 25 1, i 1, o, S 15699 0 0 16 16 1, i 2, i 1, N, i 1, i 1, S 15715 0 0 13 13 1, i 1, i 1, S 15725 0 0 13 13 1, i 1, i 1, S 15734 0 0 16 16 1, i 1, i 1, S 15743 0 0 24 24 1, i 1, i 1, S 15752 0 0 25 25 1, i 1, i 1, S 15761 0 0 24 24 1, i 1, i 1, S 15770 0 0 25 25 1, i 1, i 1, S 15779 0 0 24 24 1, i 1, i 1, S 15788 0 0 25 25 1, i 1, i 1, S 15797 0 0 16 16 1, i 1, i 1, S 15806 0 0 16 16 1, i 3, o, N, i 1, i 1, S 15822 0 0 12 12 1, i 2, o, N, i 1, o, S 15838 0 0 13 13 1, i 1, o, S 15848 0 0 13 13 1, i 1, o, S 15857 0 0 16 16 1, i 1, o, S 15866 0 0 24 24 1, i 1, o, S 15875 0 0 25 25 1, i 1, o, S 15884 0 0 24 24 1, i 1, o, S 15893 0 0 25 25 1, i 1, o, S 15902 0 0 16 16 1, i 3, o, N]) 0 3 39 0 false false))
open ckS in
noncomputable def ckS.b185 : Nat × Blk := (15600, (B 24 24519928739614503124695997788886127144537787169476050944))
open ckS in
noncomputable def ckS.b186 : Nat × Blk := (15609, (B 25 12554203495218079607260325575567302747373596374054534709760))
open ckS in
noncomputable def ckS.b187 : Nat × Blk := (15636, (B 24 24519928739760953970731178901220047668150328687008808960))
open ckS in
noncomputable def ckS.b188 : Nat × Blk := (15645, (B 25 12554203494397078408126615600838912986032910281925529240320))
open ckS in
noncomputable def ckS.b189 : Nat × Blk := (15681, (B 24 24519928739568825725257676333165822500868260528386736128))
open ckS in
noncomputable def ckS.b190 : Nat × Blk := (15690, (B 25 12554203494419369227628785527250361219754848554013727785216))
open ckS in
noncomputable def ckS.b191 : Nat × Blk := (15743, (B 24 24519928739614503124695997788886127144537787169476050944))
open ckS in
noncomputable def ckS.b192 : Nat × Blk := (15752, (B 25 12554203495218079607260325575567302747373596374054534709760))
open ckS in
noncomputable def ckS.b193 : Nat × Blk := (15761, (B 24 24519928739760953970731178901220047668150328687008808960))
open ckS in
noncomputable def ckS.b194 : Nat × Blk := (15770, (B 25 12554203494397078408126615600838912986032910281925529240320))
open ckS in
noncomputable def ckS.b195 : Nat × Blk := (15779, (B 24 24519928739568825725257676333165822500868260528386736128))
open ckS in
noncomputable def ckS.b196 : Nat × Blk := (15788, (B 25 12554203494419369227628785527250361219754848554013727785216))
open ckS in
noncomputable def ckS.b197 : Nat × Blk := (15866, (B 24 24519928739614503124695997788886127144537787169476050944))
open ckS in
noncomputable def ckS.b198 : Nat × Blk := (15875, (B 25 12554203495218079607260325575567302747373596374054534709760))
open ckS in
noncomputable def ckS.b199 : Nat × Blk := (15884, (B 24 24519928739760953970731178901220047668150328687008808960))
open ckS in
noncomputable def ckS.b200 : Nat × Blk := (15893, (B 25 12554203494397078408126615600838912986032910281925529240320))
open ckS in
noncomputable def ckS.b201 : Nat × Blk := (16294, (.map 0 [((a [o, s 1 97]), i 3, 0), ((a [o, s 1 98]), i 1, 1)] 2))
open ckS in
noncomputable def ckS.b202 : Nat × Blk := (18377, (.map 0 [((a [o, s 1 97]), i 3, 0), ((a [o, s 1 98]), i 1, 1)] 2))
open ckS in
noncomputable def ckS.b203 : Nat × Blk := (18381, (B 156 75727673520064286106985485257169664442412086088484942647353609775843988758916747692409665534370420805202764053182500148342507699955038544036650208543856950023986227564168760806566595887085924286241348933962518044558630877126660057297155232468276189263837585275742223585446445815793823349245827613651435913894077644571443455335338715291513400744474401736457211389710600069379))
open ckS in
noncomputable def ckS.b204 : Nat × Blk := (18001, (L 8 [i 10000, o, S 18295 7 0 156 156 1, S 18172 11 0 233 233 1, N, N, o, S 18021 39 0 40 40 3]))
open ckS in
noncomputable def ckS.b205 : Nat × Blk := (18295, (.cells 1 (.byt 156 75727673520064286106985485257169664442412086088484942647353609775843988758916747692409665534370420805202764053182500148342507699955038544036650208543856950023986227564168760806566595887085924286241348933962518044558630877126660057297155232468276189263837585275742223585446445815793823349245827613651435913894077644571443455335338715291513400744474401736457211389710600069379) 0 13 7 0 false false))
open ckS in
noncomputable def ckS.b206 : Nat × Blk := (18172, (.cells 1 (.byt 233 20593584391234759078539791420812775116061257481890326702634948898241272903913437848588200188258722285092177165673736770993013263859950567638609864958653624266440100730301465241610762072797874482560798941785164356513227858261601957583916544981570708942569179132720919684085915343156248436137275475030117315553849812504522756982190795095375607753900762842897256409707737917407996806405144193965227546823195045496063234085289690914309805404792845025248649139300665924408454996894619949845345565166552776702791298207544374093516948148653240467525179509584015917410) 0 13 11 0 false false))
open ckS in
noncomputable def ckS.b207 : Nat × Blk := (18021, (.cells 0 (.lst 120 [i 1, o, S 18014 0 0 13 13 1, i 1, o, S 18025 0 0 16 16 1, i 1, o, S 18034 0 0 16 16 1, i 1, o, S 18043 0 0 13 13 1, i 1, o, S 18052 0 0 24 24 1, i 1, o, S 18061 0 0 25 25 1, i 1, o, S 18070 0 0 16 16 1, i 1, o, S 18079 0 0 13 13 1, i 1, o, S 18088 0 0 24 24 1, i 1, o, S 18097 0 0 25 25 1, i 1, o, S 18106 0 0 16 16 1, i 1, o, S 18115 0 0 16 16 1, i 1, o, S 18124 0 0 13 13 1, i 1, o, S 18133 0 0 24 24 1, i 1, o, S 18142 0 0 25 25 1, i 1, o, S 18151 0 0 16 16 1, i 2, i 1, N, i 1, i 1, S 18167 0 0 13 13 1, i 1, i 1, S 18177 0 0 13 13 1, i 1, i 1, S 18186 0 0 16 16 1, i 1, i 1, S 18195 0 0 24 24 1, i 1, i 1, S 18204 0 0 25 25 1, i 1, i 1, S 18213 0 0 24 24 1, i 1, i 1, S 18222 0 0 25 25 1, i 1, i 1, S 18231 0 0 24 24 1, i 1, i 1, S 18240 0 0 25 25 1, i 1, i 1, S 18249 0 0 16 16 1, i 1, i 1, S 18258 0 0 16 16 1, i 3, o, N, i 1, i 1, S 18274 0 0 12 12 1, i 2, o, N, i 1, o, S 18290 0 0 13 13 1, i 1, o, S 18300 0 0 13 13 1, i 1, o, S 18309 0 0 16 16 1, i 1, o, S 18318 0 0 24 24 1, i 1, o, S 18327 0 0 25 25 1, i 1, o, S 18336 0 0 24 24 1, i 1, o, S 18345 0 0 25 25 1, i 1, o, S 18354 0 0 16 16 1, i 3, o, N]) 0 3 39 0 false false))
open ckS in
noncomputable def ckS.b208 : Nat × Blk := (18052, (B 24 24519928739614503124695997788886127144537787169476050944))
open ckS in
noncomputable def ckS.b209 : Nat × Blk := (18061, (B 25 12554203495218079607260325575567302747373596374054534709760))
open ckS in
noncomputable def ckS.b210 : Nat × Blk := (18088, (B 24 24519928739760953970731178901220047668150328687008808960))
open ckS in
noncomputable def ckS.b211 : Nat × Blk := (18097, (B 25 12554203494397078408126615600838912986032910281925529240320))
open ckS in
noncomputable def ckS.b212 : Nat × Blk := (18133, (B 24 24519928739568825725257676333165822500868260528386736128))
open ckS in
noncomputable def ckS.b213 : Nat × Blk := (18142, (B 25 12554203494419369227628785527250361219754848554013727785216))
open ckS in
noncomputable def ckS.b214 : Nat × Blk := (18195, (B 24 24519928739614503124695997788886127144537787169476050944))
open ckS in
noncomputable def ckS.b215 : Nat × Blk := (18204, (B 25 12554203495218079607260325575567302747373596374054534709760))
open ckS in
noncomputable def ckS.b216 : Nat × Blk := (18213, (B 24 24519928739760953970731178901220047668150328687008808960))
open ckS in
noncomputable def ckS.b217 : Nat × Blk := (18222, (B 25 12554203494397078408126615600838912986032910281925529240320))
open ckS in
noncomputable def ckS.b218 : Nat × Blk := (18231, (B 24 24519928739568825725257676333165822500868260528386736128))
open ckS in
noncomputable def ckS.b219 : Nat × Blk := (18240, (B 25 12554203494419369227628785527250361219754848554013727785216))
open ckS in
noncomputable def ckS.b220 : Nat × Blk := (18318, (B 24 24519928739614503124695997788886127144537787169476050944))
open ckS in
noncomputable def ckS.b221 : Nat × Blk := (18327, (B 25 12554203495218079607260325575567302747373596374054534709760))
open ckS in
noncomputable def ckS.b222 : Nat × Blk := (18336, (B 24 24519928739760953970731178901220047668150328687008808960))
open ckS in
noncomputable def ckS.b223 : Nat × Blk := (18345, (B 25 12554203494397078408126615600838912986032910281925529240320))
open ckS in
noncomputable def ckS.b224 : Nat × Blk := (18384, (B 156 75727673520064286106985485257169664442412086088484942647353609775843988758916747692409665534370420805202764053182500148342507699955038544036650208543856950023986227564168760806566595887085924286241348933962518044558630877126660057297155232468276189263837585275742223585446445815793823349245827613651435913894077644571443455335338715291513400744474401736457211389710600069379))
open ckS in
noncomputable def ckS.b225 : Nat × Blk := (18387, (.loop 16342 .busy none 49 (v [(0, P 104), (2, M), (3, o), (4, P 18379), (5, S 18381 0 0 156 156 1), (6, o), (7, P 18382), (12, P 104), (13, P 18001), (14, f), (15, P 18368), (16, P 18373), (17, m 18374), (18, m 18375), (19, (a y57)), (20, P 104), (21, m 18376), (22, m 18377), (23, (a y37)), (24, P 18378), (25, (.tup [S 18381 0 0 156 156 1, o])), (26, P 104), (27, P 104), (28, o), (29, (.tup [S 18381 0 0 156 156 1, o])), (30, S 18381 0 0 156 156 1), (31, o), (32, S 18381 0 0 156 156 1), (33, (.fn (.func 157) [] [P 18385]))]) [(q 34), (q 35)] (zz 49 [1, 1, 1, 1, 1, 1, 1, 0, 1, 1, 0]) (zz 49 [1, 1, 1, 1, 1, 1, 1, 0, 1, 1, 1]) (q 18386)))
open ckS in
noncomputable def ckS.b226 : Nat × Blk := (18393, (.loop 16348 .busy none 157 (v [(0, (.yield (q 18387))), (1, P 18385), (2, P 18388), (3, P 18389), (6, S 18384 0 0 156 156 1), (7, (.fn (.func 232) [] [P 18390, P 18391]))]) [(q 8), (q 9)] (zz 157 [1, 1, 1, 1, 0]) (zz 157 [1, 1, 1, 1, 1]) (q 18392)))
open ckS in
noncomputable def ckS.b227 : Nat × Blk := (17632, (L 8 [i 10000, o, S 17926 7 0 156 156 1, S 17803 11 0 233 233 1, N, N, o, S 17652 39 0 40 40 3]))
open ckS in
noncomputable def ckS.b228 : Nat × Blk := (17926, (.cells 1 (.byt 156 75727673520064286106985485257169664442412086088484942647353609775843988758916747692409665534370420805202764053182500148342507699955038544036650208543856950023986227564168760806566595887085924286241348933962518044558630877126660057297155232468276189263837585275742223585446445815793823349245827613651435913894077644571443455335338715291513400744474401736457211389710600069379) 0 13 7 0 false false))
open ckS in
noncomputable def ckS.b229 : Nat × Blk := (17803, (.cells 1 (.byt 233 20593584391234759078539791420812775116061257481890326702634948898241272903913437848588200188258722285092177165673736770993013263859950567638609864958653624266440100730301465241610762072797874482560798941785164356513227858261601957583916544981570708942569179132720919684085915343156248436137275475030117315553849812504522756982190795095375607753900762842897256409707737917407996806405144193965227546823195045496063234085289690914309805404792845025248649139300665924408454996894619949845345565166552776702791298207544374093516948148653240467525179509584015917410) 0 13 11 0 false false))
open ckS in
noncomputable def ckS.b230 : Nat × Blk := (17652, (.cells 0 (.lst 120 [i 1, o, S 17645 0 0 13 13 1, i 1, o, S 17656 0 0 16 16 1, i 1, o, S 17665 0 0 16 16 1, i 1, o, S 17674 0 0 13 13 1, i 1, o, S 17683 0 0 24 24 1, i 1, o, S 17692 0 0 25 25 1, i 1, o, S 17701 0 0 16 16 1, i 1, o, S 17710 0 0 13 13 1, i 1, o, S 17719 0 0 24 24 1, i 1, o, S 17728 0 0 25 25 1, i 1, o, S 17737 0 0 16 16 1, i 1, o, S 17746 0 0 16 16 1, i 1, o, S 17755 0 0 13 13 1, i 1, o, S 17764 0 0 24 24 1, i 1, o, S 17773 0 0 25 25 1, i 1, o, S 17782 0 0 16 16 1, i 2, i 1, N, i 1, i 1, S 17798 0 0 13 13 1, i 1, i 1, S 17808 0 0 13 13 1, i 1, i 1, S 17817 0 0 16 16 1, i 1, i 1, S 17826 0 0 24 24 1, i 1, i 1, S 17835 0 0 25 25 1, i 1, i 1, S 17844 0 0 24 24 1, i 1, i 1, S 17853 0 0 25 25 1, i 1, i 1, S 17862 0 0 24 24 1, i 1, i 1, S 17871 0 0 25 25 1, i 1, i 1, S 17880 0 0 16 16 1, i 1, i 1, S 17889 0 0 16 16 1, i 3, o, N, i 1, i 1, S 17905 0 0 12 12 1, i 2, o, N, i 1, o, S 17921 0 0 13 13 1, i 1, o, S 17931 0 0 13 13 1, i 1, o, S 17940 0 0 16 16 1, i 1, o, S 17949 0 0 24 24 1, i 1, o, S 17958 0 0 25 25 1, i 1, o, S 17967 0 0 24 24 1, i 1, o, S 17976 0 0 25 25 1, i 1, o, S 17985 0 0 16 16 1, i 3, o, N]) 0 3 39 0 false false))
open ckS in
noncomputable def ckS.b231 : Nat × Blk := (17683, (B 24 24519928739614503124695997788886127144537787169476050944))
open ckS in
noncomputable def ckS.b232 : Nat × Blk := (17692, (B 25 12554203495218079607260325575567302747373596374054534709760))
open ckS in
noncomputable def ckS.b233 : Nat × Blk := (17719, (B 24 24519928739760953970731178901220047668150328687008808960))
open ckS in
noncomputable def ckS.b234 : Nat × Blk := (17728, (B 25 12554203494397078408126615600838912986032910281925529240320))
open ckS in
noncomputable def ckS.b235 : Nat × Blk := (17764, (B 24 24519928739568825725257676333165822500868260528386736128))
open ckS in
noncomputable def ckS.b236 : Nat × Blk := (17773, (B 25 12554203494419369227628785527250361219754848554013727785216))
open ckS in
noncomputable def ckS.b237 : Nat × Blk := (17826, (B 24 24519928739614503124695997788886127144537787169476050944))
open ckS in
noncomputable def ckS.b238 : Nat × Blk := (17835, (B 25 12554203495218079607260325575567302747373596374054534709760))
open ckS in
noncomputable def ckS.b239 : Nat × Blk := (17844, (B 24 24519928739760953970731178901220047668150328687008808960))
open ckS in
noncomputable def ckS.b240 : Nat × Blk := (17853, (B 25 12554203494397078408126615600838912986032910281925529240320))
open ckS in
noncomputable def ckS.b241 : Nat × Blk := (17862, (B 24 24519928739568825725257676333165822500868260528386736128))
open ckS in
noncomputable def ckS.b242 : Nat × Blk := (17871, (B 25 12554203494419369227628785527250361219754848554013727785216))
open ckS in
noncomputable def ckS.b243 : Nat × Blk := (17949, (B 24 24519928739614503124695997788886127144537787169476050944))
open ckS in
noncomputable def ckS.b244 : Nat × Blk := (17958, (B 25 12554203495218079607260325575567302747373596374054534709760))
open ckS in
noncomputable def ckS.b245 : Nat × Blk := (17967, (B 24 24519928739760953970731178901220047668150328687008808960))
open ckS in
noncomputable def ckS.b246 : Nat × Blk := (17976, (B 25 12554203494397078408126615600838912986032910281925529240320))
open ckS in
noncomputable def ckS.b247 : Nat × Blk := (16284, (.map 0 [((a [o, s 1 97, i 1]), (a y34), 0), ((a [o, s 1 97, i 2]), (a y44), 1), ((a [o, s 1 97, i 3]), (a y49), 2)] 3))
open ckS in
noncomputable def ckS.b248 : Nat × Blk := (17472, (.map 0 [((.ifc 143 (P 17024)), (a [o, s 1 97, i 2, o]), 0), ((.ifc 143 (P 17502)), (a [o, s 1 97, i 3, o]), 1)] 2))
open ckS in
noncomputable def ckS.b249 : Nat × Blk := (17473, (.map 0 [((a [o, s 1 97, i 2, o]), P 17024, 0), ((a [o, s 1 97, i 3, o]), P 17502, 1)] 2))
open ckS in
noncomputable def ckS.b250 : Nat × Blk := (17475, (.map 0 [((a [o, s 1 97, i 2]), t, 0), ((a [o, s 1 97, i 3]), t, 1)] 2))
open ckS in
noncomputable def ckS.b251 : Nat × Blk := (16291, (.map 0 [((a [o, s 1 97, i 1]), (a [o, e, o, o]), 0), ((a [o, s 1 97, i 2]), (a [o, s 1 97, i 2, o]), 1), ((a [o, s 1 97, i 3]), (a [o, s 1 97, i 3, o]), 2)] 3))
open ckS in
noncomputable def ckS.b252 : Nat × Blk := (16292, (.map 0 [((a [o, s 1 97, i 1]), N, 0), ((a [o, s 1 97, i 2]), S 16983 0 0 1 1 20, 1), ((a [o, s 1 97, i 3]), S 17461 0 0 1 1 20, 2)] 3))
open ckS in
noncomputable def ckS.b253 : Nat × Blk := (16293, (.map 0 [((a [o, s 1 97]), (a [o, s 1 97, i 3]), 0)] 1))
open ckS in
noncomputable def ckS.b254 : Nat × Blk := (18367, (.map 0 [((a [o, s 1 97, i 1]), (a y43), 0), ((a [o, s 1 97, i 2]), (a y64), 1), ((a [o, s 1 97, i 3]), (a y65), 2)] 3))
open ckS in
noncomputable def ckS.b255 : Nat × Blk := (19555, (.map 0 [((.ifc 143 (P 19107)), (a [o, s 1 97, i 2, o]), 0), ((.ifc 143 (P 19585)), (a [o, s 1 97, i 3, o]), 1)] 2))
open ckS in
noncomputable def ckS.b256 : Nat × Blk := (19556, (.map 0 [((a [o, s 1 97, i 2, o]), P 19107, 0), ((a [o, s 1 97, i 3, o]), P 19585, 1)] 2))
open ckS in
noncomputable def ckS.b257 : Nat × Blk := (19558, (.map 0 [((a [o, s 1 97, i 2]), t, 0), ((a [o, s 1 97, i 3]), t, 1)] 2))
open ckS in
noncomputable def ckS.b258 : Nat × Blk := (18374, (.map 0 [((a [o, s 1 97, i 1]), (a [o, e, o, o]), 0), ((a [o, s 1 97, i 2]), (a [o, s 1 97, i 2, o]), 1), ((a [o, s 1 97, i 3]), (a [o, s 1 97, i 3, o]), 2)] 3))
open ckS in
noncomputable def ckS.b259 : Nat × Blk := (18375, (.map 0 [((a [o, s 1 97, i 1]), N, 0), ((a [o, s 1 97, i 2]), S 19066 0 0 1 1 20, 1), ((a [o, s 1 97, i 3]), S 19544 0 0 1 1 20, 2)] 3))
open ckS in
noncomputable def ckS.b260 : Nat × Blk := (18376, (.map 0 [((a [o, s 1 97]), (a [o, s 1 97, i 3]), 0)] 1))
open ckS in
noncomputable def ckS.b261 : Nat × Blk := (20292, (B 156 75727673520064286106985485257169664442412086088484942647353609775843988758916747692409665534370420805202764053182500148342507699955038544036650208543856950023986227564168760806566595887085924286241348933962518044558630877126660057297155232468276189263837585275742223585446445815793823349245827613651435913894077644571443455335338715291513400744474401736457211389710600069379))
open ckS in
noncomputable def ckS.b262 : Nat × Blk := (20295, (B 233 20593584391234759078539791420812775116061257481890326702634948898241272903913437848588200188258722285092177165673736770993013263859950567638609864958653624266440100730301465241610762072797874482560798941785164356513227858261601957583916544981570708942569179132720919684085915343156248436137275475030117315553849812504522756982190795095375607753900762842897256409707737917407996806405144193965227546823195045496063234085289690914309805404792845025248649139300665924408454996894619949845345565166552776702791298207544374093516948148653240467525179509584015917410))
open ckS in
noncomputable def ckS.b263 : Nat × Blk := (20301, (.map 0 [((a [o, s 1 97, i 1]), (a y66), 0), ((a [o, s 1 97, i 2]), (a [o, s 1 97, i 2, S 20299 0 0 1 1 3, i 2, N]), 1), ((a [o, s 1 97, i 3]), (a [o, s 1 97, i 3, S 20300 0 0 1 1 3, i 3, N]), 2)] 3))
open ckS in
noncomputable def ckS.b264 : Nat × Blk := (20303, (.cells 0 (.lst 18 [o, s 1 97, i 1, (.sl (q 20304) 0 0 0 0 true 3), i 1, N, o, s 1 97, i 2, S 20305 0 0 1 1 3, i 2, N, o, s 1 97, i 3, S 20306 0 0 1 1 3, i 3, N]) 0 0 2 2 false false))
open ckS in
noncomputable def ckS.b265 : Nat × Blk := (20452, (.cells 1 (.byt 156 75727673520064286106985485257169664442412086088484942647353609775843988758916747692409665534370420805202764053182500148342507699955038544036650208543856950023986227564168760806566595887085924286241348933962518044558630877126660057297155232468276189263837585275742223585446445815793823349245827613651435913894077644571443455335338715291513400744474401736457211389710600069379) 0 13 7 0 false false))
open ckS in
noncomputable def ckS.b266 : Nat × Blk := (441, (.cells 0 (.lst 150 [i 1, o, S 435 0 0 13 13 1, i 1, o, S 582 0 0 16 16 1, i 1, o, S 735 0 0 16 16 1, i 1, o, S 1329 0 0 13 13 1, i 1, o, S 1716 0 0 24 24 1, i 1, o, S 1722 0 0 25 25 1, i 1, o, S 2026 0 0 16 16 1, i 1, o, S 2642 0 0 13 13 1, i 1, o, S 3029 0 0 24 24 1, i 1, o, S 3035 0 0 25 25 1, i 1, o, S 3339 0 0 16 16 1, i 1, o, S 3436 0 0 16 16 1, i 1, o, S 4025 0 0 13 13 1, i 1, o, S 4412 0 0 24 24 1, i 1, o, S 4418 0 0 25 25 1, i 1, o, S 4722 0 0 16 16 1, i 2, i 1, N, i 1, i 1, S 8344 0 0 13 13 1, i 1, i 1, S 8388 0 0 13 13 1, i 1, i 1, S 8495 0 0 16 16 1, i 1, i 1, S 8587 0 0 24 24 1, i 1, i 1, S 8679 0 0 25 25 1, i 1, i 1, S 8771 0 0 24 24 1, i 1, i 1, S 8863 0 0 25 25 1, i 1, i 1, S 8955 0 0 24 24 1, i 1, i 1, S 9047 0 0 25 25 1, i 1, i 1, S 9110 0 0 16 16 1, i 1, i 1, S 9166 0 0 16 16 1, i 3, o, N, i 1, i 1, S 11667 0 0 12 12 1, i 2, o, N, i 1, o, S 14966 0 0 13 13 1, i 1, o, S 15010 0 0 13 13 1, i 1, o, S 15108 0 0 16 16 1, i 1, o, S 15200 0 0 24 24 1, i 1, o, S 15292 0 0 25 25 1, i 1, o, S 15384 0 0 24 24 1, i 1, o, S 15476 0 0 25 25 1, i 1, o, S 15537 0 0 16 16 1, i 3, o, N, i 2, i 1, N, i 1, i 1, S 20448 0 0 13 13 1, i 1, i 1, S 20492 0 0 13 13 1, i 1, i 1, S 20589 0 0 16 16 1, i 1, i 1, S 20681 0 0 24 24 1, i 1, i 1, S 20773 0 0 25 25 1, i 1, i 1, S 20865 0 0 24 24 1, i 1, i 1, S 20957 0 0 25 25 1, i 1, i 1, S 21018 0 0 16 16 1, i 3, o, N]) 0 3 49 0 false false))
open ckS in
noncomputable def ckS.b267 : Nat × Blk := (20681, (B 24 24519928739614503124695997788886127144537787169476050944))
open ckS in
noncomputable def ckS.b268 : Nat × Blk := (20773, (B 25 12554203495218079607260325575567302747373596374054534709760))
open ckS in
noncomputable def ckS.b269 : Nat × Blk := (20865, (B 24 24519928739760953970731178901220047668150328687008808960))
open ckS in
noncomputable def ckS.b270 : Nat × Blk := (20957, (B 25 12554203494397078408126615600838912986032910281925529240320))
open ckS in
noncomputable def ckS.b271 : Nat × Blk := (21081, (B 24 24519928739614503124695997788886127144537787169476050944))
open ckS in
noncomputable def ckS.b272 : Nat × Blk := (21090, (B 25 12554203495218079607260325575567302747373596374054534709760))
open ckS in
noncomputable def ckS.b273 : Nat × Blk := (21117, (B 24 24519928739760953970731178901220047668150328687008808960))
open ckS in
noncomputable def ckS.b274 : Nat × Blk := (21126, (B 25 12554203494397078408126615600838912986032910281925529240320))
open ckS in
noncomputable def ckS.b275 : Nat × Blk := (21162, (B 24 24519928739568825725257676333165822500868260528386736128))
open ckS in
noncomputable def ckS.b276 : Nat × Blk := (21171, (B 25 12554203494419369227628785527250361219754848554013727785216))
open ckS in
noncomputable def ckS.b277 : Nat × Blk := (21224, (B 24 24519928739614503124695997788886127144537787169476050944))
open ckS in
noncomputable def ckS.b278 : Nat × Blk := (21233, (B 25 12554203495218079607260325575567302747373596374054534709760))
open ckS in
noncomputable def ckS.b279 : Nat × Blk := (21242, (B 24 24519928739760953970731178901220047668150328687008808960))
open ckS in
noncomputable def ckS.b280 : Nat × Blk := (21251, (B 25 12554203494397078408126615600838912986032910281925529240320))
open ckS in
noncomputable def ckS.b281 : Nat × Blk := (21260, (B 24 24519928739568825725257676333165822500868260528386736128))
open ckS in
noncomputable def ckS.b282 : Nat × Blk := (21269, (B 25 12554203494419369227628785527250361219754848554013727785216))
open ckS in
noncomputable def ckS.b283 : Nat × Blk := (21347, (B 24 24519928739614503124695997788886127144537787169476050944))
open ckS in
noncomputable def ckS.b284 : Nat × Blk := (21356, (B 25 12554203495218079607260325575567302747373596374054534709760))
open ckS in
noncomputable def ckS.b285 : Nat × Blk := (21365, (B 24 24519928739760953970731178901220047668150328687008808960))
open ckS in
noncomputable def ckS.b286 : Nat × Blk := (21374, (B 25 12554203494397078408126615600838912986032910281925529240320))
open ckS in
noncomputable def ckS.b287 : Nat × Blk := (20399, (.map 0 [((a [o, s 1 97, i 1]), (a [o, s 1 97, i 1, (.sl (q 20396) 0 0 0 0 true 3), i 1, N]), 0), ((a [o, s 1 97, i 2]), (a [o, s 1 97, i 2, S 20397 0 0 1 1 3, i 2, N]), 1), ((a [o, s 1 97, i 3]), (a [o, s 1 97, i 3, S 20398 0 0 1 1 3, i 3, N]), 2)] 3))
open ckS in
noncomputable def ckS.b288 : Nat × Blk := (21949, (.map 0 [((a [o, s 1 97]), i 3, 0), ((a [o, s 1 98]), i 1, 1)] 2))
open ckS in
noncomputable def ckS.b289 : Nat × Blk := (21953, (B 156 75727673520064286106985485257169664442412086088484942647353609775843988758916747692409665534370420805202764053182500148342507699955038544036650208543856950023986227564168760806566595887085924286241348933962518044558630877126660057297155232468276189263837585275742223585446445815793823349245827613651435913894077644571443455335338715291513400744474401736457211389710600069379))
open ckS in
noncomputable def ckS.b290 : Nat × Blk := (21486, (L 8 [i 10000, i 1, S 21780 7 0 156 156 1, S 21867 7 0 156 156 1, N, N, o, S 21506 49 0 50 50 3]))
open ckS in
noncomputable def ckS.b291 : Nat × Blk := (21780, (.cells 1 (.byt 156 75727673520064286106985485257169664442412086088484942647353609775843988758916747692409665534370420805202764053182500148342507699955038544036650208543856950023986227564168760806566595887085924286241348933962518044558630877126660057297155232468276189263837585275742223585446445815793823349245827613651435913894077644571443455335338715291513400744474401736457211389710600069379) 0 13 7 0 false false))
open ckS in
noncomputable def ckS.b292 : Nat × Blk := (21867, (.cells 1 (.byt 156 75727673520064286106985485257169664442412086088484942647353609775843988758916747692409665534370420805202764053182500148342507699955038544036650208543856950023986227564168760806566595887085924286241348933962518044558630877126660057297155232468276189263837585275742223585446445815793823349245827613651435913894077644571443455335338715291513400744474401736457211389710600069379) 0 13 7 0 false false))
open ckS in
noncomputable def ckS.b293 : Nat × Blk := (21506, (.cells 0 (.lst 150 [i 1, o, S 21499 0 0 13 13 1, i 1, o, S 21510 0 0 16 16 1, i 1, o, S 21519 0 0 16 16 1, i 1, o, S 21528 0 0 13 13 1, i 1, o, S 21537 0 0 24 24 1, i 1, o, S 21546 0 0 25 25 1, i 1, o, S 21555 0 0 16 16 1, i 1, o, S 21564 0 0 13 13 1, i 1, o, S 21573 0 0 24 24 1, i 1, o, S 21582 0 0 25 25 1, i 1, o, S 21591 0 0 16 16 1, i 1, o, S 21600 0 0 16 16 1, i 1, o, S 21609 0 0 13 13 1, i 1, o, S 21618 0 0 24 24 1, i 1, o, S 21627 0 0 25 25 1, i 1, o, S 21636 0 0 16 16 1, i 2, i 1, N, i 1, i 1, S 21652 0 0 13 13 1, i 1, i 1, S 21662 0 0 13 13 1, i 1, i 1, S 21671 0 0 16 16 1, i 1, i 1, S 21680 0 0 24 24 1, i 1, i 1, S 21689 0 0 25 25 1, i 1, i 1, S 21698 0 0 24 24 1, i 1, i 1, S 21707 0 0 25 25 1, i 1, i 1, S 21716 0 0 24 24 1, i 1, i 1, S 21725 0 0 25 25 1, i 1, i 1, S 21734 0 0 16 16 1, i 1, i 1, S 21743 0 0 16 16 1, i 3, o, N, i 1, i 1, S 21759 0 0 12 12 1, i 2, o, N, i 1, o, S 21775 0 0 13 13 1, i 1, o, S 21785 0 0 13 13 1, i 1, o, S 21794 0 0 16 16 1, i 1, o, S 21803 0 0 24 24 1, i 1, o, S 21812 0 0 25 25 1, i 1, o, S 21821 0 0 24 24 1, i 1, o, S 21830 0 0 25 25 1, i 1, o, S 21839 0 0 16 16 1, i 3, o, N, i 2, i 1, N, i 1, i 1, S 21862 0 0 13 13 1, i 1, i 1, S 21872 0 0 13 13 1, i 1, i 1, S 21881 0 0 16 16 1, i 1, i 1, S 21890 0 0 24 24 1, i 1, i 1, S 21899 0 0 25 25 1, i 1, i 1, S 21908 0 0 24 24 1, i 1, i 1, S 21917 0 0 25 25 1, i 1, i 1, S 21926 0 0 16 16 1, i 3, o, N]) 0 3 49 0 false false))
open ckS in
noncomputable def ckS.b294 : Nat × Blk := (21537, (B 24 24519928739614503124695997788886127144537787169476050944))
open ckS in
noncomputable def ckS.b295 : Nat × Blk := (21546, (B 25 12554203495218079607260325575567302747373596374054534709760))
open ckS in
noncomputable def ckS.b296 : Nat × Blk := (21573, (B 24 24519928739760953970731178901220047668150328687008808960))
open ckS in
noncomputable def ckS.b297 : Nat × Blk := (21582, (B 25 12554203494397078408126615600838912986032910281925529240320))
open ckS in
noncomputable def ckS.b298 : Nat × Blk := (21618, (B 24 24519928739568825725257676333165822500868260528386736128))
open ckS in
noncomputable def ckS.b299 : Nat × Blk := (21627, (B 25 12554203494419369227628785527250361219754848554013727785216))
open ckS in
noncomputable def ckS.b300 : Nat × Blk := (21680, (B 24 24519928739614503124695997788886127144537787169476050944))
open ckS in
noncomputable def ckS.b301 : Nat × Blk := (21689, (B 25 12554203495218079607260325575567302747373596374054534709760))
open ckS in
noncomputable def ckS.b302 : Nat × Blk := (21698, (B 24 24519928739760953970731178901220047668150328687008808960))
open ckS in
noncomputable def ckS.b303 : Nat × Blk := (21707, (B 25 12554203494397078408126615600838912986032910281925529240320))
open ckS in
noncomputable def ckS.b304 : Nat × Blk := (21716, (B 24 24519928739568825725257676333165822500868260528386736128))
open ckS in
noncomputable def ckS.b305 : Nat × Blk := (21725, (B 25 12554203494419369227628785527250361219754848554013727785216))
open ckS in
noncomputable def ckS.b306 : Nat × Blk := (21803, (B 24 24519928739614503124695997788886127144537787169476050944))
open ckS in
noncomputable def ckS.b307 : Nat × Blk := (21812, (B 25 12554203495218079607260325575567302747373596374054534709760))
open ckS in
noncomputable def ckS.b308 : Nat × Blk := (21821, (B 24 24519928739760953970731178901220047668150328687008808960))
open ckS in
noncomputable def ckS.b309 : Nat × Blk := (21830, (B 25 12554203494397078408126615600838912986032910281925529240320))
open ckS in
noncomputable def ckS.b310 : Nat × Blk := (21890, (B 24 24519928739614503124695997788886127144537787169476050944))
open ckS in
noncomputable def ckS.b311 : Nat × Blk := (21899, (B 25 12554203495218079607260325575567302747373596374054534709760))
open ckS in
noncomputable def ckS.b312 : Nat × Blk := (21908, (B 24 24519928739760953970731178901220047668150328687008808960))
open ckS in
noncomputable def ckS.b313 : Nat × Blk := (21917, (B 25 12554203494397078408126615600838912986032910281925529240320))
open ckS in
noncomputable def ckS.b314 : Nat × Blk := (21956, (B 156 75727673520064286106985485257169664442412086088484942647353609775843988758916747692409665534370420805202764053182500148342507699955038544036650208543856950023986227564168760806566595887085924286241348933962518044558630877126660057297155232468276189263837585275742223585446445815793823349245827613651435913894077644571443455335338715291513400744474401736457211389710600069379))
open ckS in
noncomputable def ckS.b315 : Nat × Blk := (21959, (.loop 19496 .busy none 49 (v [(0, P 104), (2, M), (3, o), (4, P 21951), (5, S 21953 0 0 156 156 1), (6, o), (7, P 21954), (12, P 104), (13, P 21486), (14, f), (15, P 21940), (16, P 21945), (17, m 21946), (18, m 21947), (19, (a y58)), (20, P 104), (21, m 21948), (22, m 21949), (23, (a y39)), (24, P 21950), (25, (.tup [S 21953 0 0 156 156 1, o])), (26, P 104), (27, P 104), (28, i 1), (29, (.tup [S 21953 0 0 156 156 1, o])), (30, S 21953 0 0 156 156 1), (31, o), (32, S 21953 0 0 156 156 1), (33, (.fn (.func 157) [] [P 21957]))]) [(q 34), (q 35)] (zz 49 [1, 1, 1, 1, 1, 1, 1, 0, 1, 1, 0]) (zz 49 [1, 1, 1, 1, 1, 1, 1, 0, 1, 1, 1]) (q 21958)))
open ckS in
noncomputable def ckS.b316 : Nat × Blk := (21965, (.loop 19502 .busy none 157 (v [(0, (.yield (q 21959))), (1, P 21957), (2, P 21960), (3, P 21961), (6, S 21956 0 0 156 156 1), (7, (.fn (.func 232) [] [P 21962, P 21963]))]) [(q 8), (q 9)] (zz 157 [1, 1, 1, 1, 0]) (zz 157 [1, 1, 1, 1, 1]) (q 21964)))
open ckS in
noncomputable def ckS.b317 : Nat × Blk := (21030, (L 8 [i 10000, i 1, S 21324 7 0 156 156 1, S 21411 7 0 156 156 1, N, N, o, S 21050 49 0 50 50 3]))
open ckS in
noncomputable def ckS.b318 : Nat × Blk := (21324, (.cells 1 (.byt 156 75727673520064286106985485257169664442412086088484942647353609775843988758916747692409665534370420805202764053182500148342507699955038544036650208543856950023986227564168760806566595887085924286241348933962518044558630877126660057297155232468276189263837585275742223585446445815793823349245827613651435913894077644571443455335338715291513400744474401736457211389710600069379) 0 13 7 0 false false))
open ckS in
noncomputable def ckS.b319 : Nat × Blk := (21411, (.cells 1 (.byt 156 75727673520064286106985485257169664442412086088484942647353609775843988758916747692409665534370420805202764053182500148342507699955038544036650208543856950023986227564168760806566595887085924286241348933962518044558630877126660057297155232468276189263837585275742223585446445815793823349245827613651435913894077644571443455335338715291513400744474401736457211389710600069379) 0 13 7 0 false false))
open ckS in
noncomputable def ckS.b320 : Nat × Blk := (21050, (.cells 0 (.lst 150 [i 1, o, S 21043 0 0 13 13 1, i 1, o, S 21054 0 0 16 16 1, i 1, o, S 21063 0 0 16 16 1, i 1, o, S 21072 0 0 13 13 1, i 1, o, S 21081 0 0 24 24 1, i 1, o, S 21090 0 0 25 25 1, i 1, o, S 21099 0 0 16 16 1, i 1, o, S 21108 0 0 13 13 1, i 1, o, S 21117 0 0 24 24 1, i 1, o, S 21126 0 0 25 25 1, i 1, o, S 21135 0 0 16 16 1, i 1, o, S 21144 0 0 16 16 1, i 1, o, S 21153 0 0 13 13 1, i 1, o, S 21162 0 0 24 24 1, i 1, o, S 21171 0 0 25 25 1, i 1, o, S 21180 0 0 16 16 1, i 2, i 1, N, i 1, i 1, S 21196 0 0 13 13 1, i 1, i 1, S 21206 0 0 13 13 1, i 1, i 1, S 21215 0 0 16 16 1, i 1, i 1, S 21224 0 0 24 24 1, i 1, i 1, S 21233 0 0 25 25 1, i 1, i 1, S 21242 0 0 24 24 1, i 1, i 1, S 21251 0 0 25 25 1, i 1, i 1, S 21260 0 0 24 24 1, i 1, i 1, S 21269 0 0 25 25 1, i 1, i 1, S 21278 0 0 16 16 1, i 1, i 1, S 21287 0 0 16 16 1, i 3, o, N, i 1, i 1, S 21303 0 0 12 12 1, i 2, o, N, i 1, o, S 21319 0 0 13 13 1, i 1, o, S 21329 0 0 13 13 1, i 1, o, S 21338 0 0 16 16 1, i 1, o, S 21347 0 0 24 24 1, i 1, o, S 21356 0 0 25 25 1, i 1, o, S 21365 0 0 24 24 1, i 1, o, S 21374 0 0 25 25 1, i 1, o, S 21383 0 0 16 16 1, i 3, o, N, i 2, i 1, N, i 1, i 1, S 21406 0 0 13 13 1, i 1, i 1, S 21416 0 0 13 13 1, i 1, i 1, S 21425 0 0 16 16 1, i 1, i 1, S 21434 0 0 24 24 1, i 1, i 1, S 21443 0 0 25 25 1, i 1, i 1, S 21452 0 0 24 24 1, i 1, i 1, S 21461 0 0 25 25 1, i 1, i 1, S 21470 0 0 16 16 1, i 3, o, N]) 0 3 49 0 false false))
open ckS in
noncomputable def ckS.b321 : Nat × Blk := (21434, (B 24 24519928739614503124695997788886127144537787169476050944))
open ckS in
noncomputable def ckS.b322 : Nat × Blk := (21443, (B 25 12554203495218079607260325575567302747373596374054534709760))
open ckS in
noncomputable def ckS.b323 : Nat × Blk := (21452, (B 24 24519928739760953970731178901220047668150328687008808960))
open ckS in
noncomputable def ckS.b324 : Nat × Blk := (21461, (B 25 12554203494397078408126615600838912986032910281925529240320))

open ckS in
/-- A state on the way. -/
noncomputable def ck2 : Ck where
  cur := ⟨134, (v [(0, P 162), (1, P 170), (2, o), (3, P 151), (4, P 151), (5, P 151), (6, P 138), (7, (a y50)), (8, o)]), [.code .ret], [], .run, false, none⟩
  callers := [⟨72, (v [(0, P 151), (1, (a [o, s 1 97])), (2, (a [M])), (3, N), (4, P 162), (5, P 163), (6, P 164), (8, P 165), (9, o), (10, P 166), (11, i 1), (12, o), (13, P 170), (14, i 16), (15, (.sl (q 394) 0 0 3 3 true 1)), (17, (.fn (.func 134) [] [P 162, P 170])), (18, o), (19, (a [o, s 1 97])), (20, P 151), (21, P 151), (22, P 151), (23, P 138), (24, (a [o, s 1 97])), (25, o), (26, i 1), (27, (a [o, s 1 97, i 1])), (28, (.tup [i 1, o])), (29, P 151), (30, P 168), (31, N), (32, (.tup [i 1, o])), (33, i 1), (34, o), (35, o), (36, f), (39, (.tup [(a y50), o])), (40, P 151), (41, P 151), (42, P 151), (43, P 138), (44, (a [o, s 1 97, i 1])), (45, N), (46, i 1), (47, (a [o, s 1 97, i 1, N, i 1, N])), (48, (a [M])), (49, (.tup [(a y50), o])), (50, (a y50)), (51, o), (52, o), (53, f), (56, (.tup [i 16, o])), (57, P 151), (58, P 151), (59, P 151), (60, P 138), (61, (a y50)), (62, (.tup [i 16, o])), (63, i 16), (64, o), (65, o), (66, f), (69, i 16), (70, P 151), (71, (a [o, s 1 97])), (72, (a [o, s 1 97, i 1])), (73, i 29), (74, i 45), (75, P 151), (76, P 151), (77, P 151), (78, P 138), (79, i 10000), (80, f), (82, (.fn (.func 132) [] [P 162, P 163, P 166])), (83, (.fn (.func 134) [] [P 162, P 170])), (84, (.fn (.func 135) [] [P 162, P 163, P 166])), (85, (.sl (q 394) 0 0 3 3 true 1)), (86, (.sl (q 394) 0 0 3 3 true 1)), (87, i 3), (88, i 1), (89, t), (90, p 394 0 1), (91, (.fn (.func 134) [] [P 162, P 170])), (92, (.fn (.func 134) [] [P 162, P 170])), (93, o), (94, o), (95, f), (98, i 1)]), [.ops (oAt (zz 72 [1, 1, 1, 1, 1, 1, 1, 1, 1, 1, 0, 1, 1, 1, 1, 1, 0, 1, 1, 0]) 1), .code (zz 72 [1, 1, 1, 1, 1, 1, 1, 1, 1, 1, 0, 1, 1, 1, 1, 1, 0, 1, 1, 1]), .inBlock 1, .code (zz 72 [1, 1, 1, 1, 1, 1, 1, 1, 1, 1, 0, 1, 1, 1, 1, 1, 1]), .inLoop (zz 72 [1, 1, 1, 1, 1, 1, 1, 1, 1, 1, 0, 1, 1, 1]), .inBlock 0, .code (zz 72 [1, 1, 1, 1, 1, 1, 1, 1, 1, 1, 1])], [], .run, false, none⟩, ⟨39, (v [(0, P 151), (1, (a [o, s 1 97])), (2, N), (4, P 156), (6, o), (7, P 158), (8, f), (11, P 151), (12, t), (13, f), (14, P 151), (15, (a [o, s 1 97])), (16, t), (17, f), (18, f), (19, N), (20, o), (21, f), (22, f), (23, f), (24, N), (25, o), (26, f), (27, f), (28, (.tup [])), (29, (.tup [])), (30, (.tup [])), (31, (.tup [])), (32, (.tup [])), (33, f), (34, f), (35, (.tup [(a [o, e, o]), f])), (36, P 151), (37, P 151), (38, P 151), (39, P 138), (40, (a [o, s 1 97])), (41, (.tup [(a [o, e, o]), f])), (42, (a [o, e, o])), (43, f), (44, f), (45, N), (46, o), (47, f), (58, P 151), (59, (a [o, s 1 97])), (60, (a [M]))]), [.ops (oAt (zz 39 [1, 1, 1, 1, 1, 0]) 3), .code (zz 39 [1, 1, 1, 1, 1, 1])], [], .run, false, none⟩, ⟨13, (v [(0, f), (1, P 104), (2, o), (3, P 151), (4, o), (5, P 154), (6, P 155), (20, (.tup [P 104, o])), (21, (.tup [P 104, o])), (22, P 104), (23, o), (24, (.tup [P 151, o])), (25, P 104), (26, (.tup [P 151, o])), (27, P 151), (28, o), (29, (a [o, s 1 97])), (30, (a [o, s 1 98])), (31, o), (32, f), (33, f), (34, P 151), (35, (a [o, s 1 97]))]), [.ops (oAt (zz 13 [1, 1, 1, 1, 0, 0]) 5), .code (zz 13 [1, 1, 1, 1, 0, 1]), .code (zz 13 [1, 1, 1, 1, 1])], [], .run, false, none⟩, f0]
  next := (q 678)
  ser := 611
  bs := w [(162, (L 1 [P 151])),
    (151, (L 2 [P 138, o])),
    (138, (L 8 [P 128, P 641, m 134, m 135, P 104, m 136, m 137, N])),
    (128, (L 2 [t, m 127])),
    (127, (.map 0 [((a [o, s 1 97, i 1]), (a [o, s 1 97, i 1, N, i 1, N]), 0)] 1)),
    (641, (L 5 [t, m 650, m 651, m 652, m 653])),
    (650, (.map 0 [] 0)),
    (651, (.map 0 [] 0)),
    (652, (.map 0 [] 0)),
    (653, (.map 0 [] 0)),
    (134, (.map 0 [((a [o, s 1 97, i 1]), (a [o, e, o, o]), 0)] 1)),
    (135, (.map 0 [((a [o, s 1 97, i 1]), N, 0)] 1)),
    (104, (L 8 [i 10000, o, S 439 1 0 29 29 1, N, N, N, o, S 441 1 0 2 2 3])),
    (439, (.cells 1 (.byt 29 107839786695316611449064941965103653290001179845151357188543344541952) 0 13 1 0 false false)),
    (441, (.cells 0 (.lst 6 [i 1, o, S 435 0 0 13 13 1, i 1, o, S 582 0 0 16 16 1]) 0 3 1 0 false false)),
    (435, (B 13 316912650135562894202732896513)),
    (582, (B 16 2658455993899308755378002830995489024)),
    (136, (.map 0 [] 0)),
    (137, (.map 0 [((a [o, s 1 97]), i 1, 0)] 1)),
    (170, (L 11 y50)),
    (163, (L 2 [o, s 1 97])),
    (164, (L 1 [M])),
    (165, (L 7 [o, e, o, o, o, o, o])),
    (166, (L 3 [o, s 1 97, i 1])),
    (394, (L 3 [(.fn (.func 132) [] [P 162, P 163, P 166]), (.fn (.func 134) [] [P 162, P 170]), (.fn (.func 135) [] [P 162, P 163, P 166])])),
    (168, (L 2 [t, m 169])),
    (169, (.map 0 [] 0)),
    (156, (L 2 [o, s 1 97])),
    (158, (L 3 [o, e, o])),
    (154, (L 2 [o, s 1 97])),
    (155, (L 2 [o, s 1 98])),
    (1, (L 8 [i 100, o, N, N, N, N, o, N])),
    (18, (L 4 [o, o, o, o])),
    (25, (L 7 [o, e, o, o, o, o, o])),
    (32, (L 7 [o, e, o, o, o, o, o])),
    (38, (L 8 y9)),
    (40, (B 3 66051)),
    (36, (B 3 66051)),
    (102, (L 4 [o, o, o, o])),
    (34, (.cells 0 (.byt 3 66051) 0 0 0 0 false false))]

open ckS in
/-- A state on the way. -/
noncomputable def ck3 : Ck where
  cur := ⟨13, (v [(0, f), (1, P 104), (2, o), (3, P 151), (4, o), (5, P 154), (6, P 155), (20, (.tup [P 104, o])), (21, (.tup [P 104, o])), (22, P 104), (23, o), (24, (.tup [P 151, o])), (25, P 104), (26, (.tup [P 151, o])), (27, P 151), (28, o), (29, (a [o, s 1 97])), (30, (a [o, s 1 98])), (31, o), (32, f), (33, f), (34, P 151), (35, (a [o, s 1 97])), (36, o), (37, f), (38, f), (39, P 151), (40, (a [o, s 1 97])), (41, (a [N, i 1, s 1 99, i 1, i 1, e])), (42, (.sl (q 755) 0 0 1 1 true 6)), (43, (.tup [(a [o, s 1 97, i 2, i 1, i 1, i 1, o]), o]))]), [.code (zz 13 [1, 1, 1, 1, 1, 1])], [], .run, false, none⟩
  callers := [f0]
  next := (q 2059)
  ser := 1851
  bs := w [(104, (L 8 [i 10000, o, S 439 6 0 123 123 1, N, N, N, o, S 441 6 0 7 7 3])),
    (439, (.cells 1 (.byt 123 2554675596837285131327047773104617881907705488725408937527410131910207855617783744705876374312819888683094340856146036659258987035056919730698700680972031631114688072909302387039031052095106980210889953426195123128429713543731830465501023863789098871050849518980308396994067196914286990870012162) 0 13 6 0 false false)),
    (441, (.cells 0 (.lst 21 [i 1, o, S 435 0 0 13 13 1, i 1, o, S 582 0 0 16 16 1, i 1, o, S 735 0 0 16 16 1, i 1, o, S 1329 0 0 13 13 1, i 1, o, S 1716 0 0 24 24 1, i 1, o, S 1722 0 0 25 25 1, i 1, o, S 2026 0 0 16 16 1]) 0 3 6 0 false false)),
    (435, (B 13 316912650135562894202732896513)),
    (582, (B 16 2658455993899308755378002830995489024)),
    (735, (B 16 3987683989750119525917084813969416449)),
    (1329, (B 13 316912650136765236195207766274)),
    b0,
    b1,
    (2026, (B 16 3987683989731756852014800065179771138)),
    (151, (L 2 [P 138, o])),
    (138, (L 8 [P 128, P 1889, m 134, m 135, P 104, m 136, m 137, N])),
    (128, (L 2 [t, m 127])),
    (127, (.map 0 [((a [o, s 1 97, i 1]), (a [o, s 1 97, i 1, N, i 1, N]), 0), ((a [o, s 1 97, i 2]), (a y11), 1)] 2)),
    (1968, (L 3 [o, s 1 97, i 1])),
    (1889, (L 5 [t, m 1899, m 1900, m 1901, m 1902])),
    (1899, (.map 0 [((.ifc 143 (P 1929)), (a [o, s 1 97, i 2, o]), 0)] 1)),
    (1929, (L 9 y3)),
    (1900, (.map 0 [((a [o, s 1 97, i 2, o]), P 1929, 0)] 1)),
    (1901, (.map 0 [] 0)),
    (1902, (.map 0 [((a [o, s 1 97, i 2]), t, 0)] 1)),
    (134, (.map 0 [((a [o, s 1 97, i 1]), (a [o, e, o, o]), 0), ((a [o, s 1 97, i 2]), (a [o, s 1 97, i 2, o]), 1)] 2)),
    (135, (.map 0 [((a [o, s 1 97, i 1]), N, 0), ((a [o, s 1 97, i 2]), S 1888 0 0 1 1 20, 1)] 2)),
    (1888, (L 20 y0)),
    (136, (.map 0 [((a [o, s 1 97]), (a [o, s 1 97, i 2]), 0)] 1)),
    (137, (.map 0 [((a [o, s 1 97]), i 2, 0)] 1)),
    (154, (L 2 [o, s 1 97])),
    (155, (L 2 [o, s 1 98])),
    (755, (L 6 [N, i 1, s 1 99, i 1, i 1, e])),
    (1, (L 8 [i 100, o, N, N, N, N, o, N])),
    (18, (L 4 [o, o, o, o])),
    (25, (L 7 [o, e, o, o, o, o, o])),
    (32, (L 7 [o, e, o, o, o, o, o])),
    (38, (L 8 y9)),
    (40, (B 3 66051)),
    (36, (B 3 66051)),
    (102, (L 4 [o, o, o, o])),
    (34, (.cells 0 (.byt 3 66051) 0 0 0 0 false false))]

open ckS in
/-- A state on the way. -/
noncomputable def ck4 : Ck where
  cur := ⟨13, (v [(0, f), (1, P 104), (2, o), (3, P 151), (4, o), (5, P 154), (6, P 155), (7, P 2060), (8, o), (20, (.tup [P 104, o])), (21, (.tup [P 104, o])), (22, P 104), (23, o), (24, (.tup [P 151, o])), (25, P 104), (26, (.tup [P 151, o])), (27, P 151), (28, o), (29, (a [o, s 1 97])), (30, (a [o, s 1 98])), (31, o), (32, f), (33, f), (34, P 151), (35, (a [o, s 1 97])), (36, o), (37, f), (38, f), (39, P 151), (40, (a [o, s 1 97])), (41, (a [N, i 1, s 1 99, i 1, i 1, e])), (42, (.sl (q 755) 0 0 1 1 true 6)), (43, (.tup [(a [o, s 1 97, i 2, i 1, i 1, i 1, o]), o])), (44, (.tup [(a [o, s 1 97, i 3, i 1, i 1, i 1, o]), o])), (45, P 151), (46, (a [o, s 1 97])), (47, (a [N, i 1, s 1 99, i 1, i 2, e])), (48, (.sl (q 2059) 0 0 1 1 true 6)), (49, (.tup [(a [o, s 1 97, i 3, i 1, i 1, i 1, o]), o])), (50, (a [o, s 1 97, i 3, i 1, i 1, i 1, o])), (51, o)]), [.code (zz 13 [1, 1, 1, 1, 1, 1, 1])], [], .run, false, none⟩
  callers := [f0]
  next := (q 3372)
  ser := 3028
  bs := w [(104, (L 8 [i 10000, o, S 439 10 0 201 201 1, N, N, N, o, S 441 10 0 11 11 3])),
    (439, (.cells 1 (.byt 201 177849665952433065257387421539209169357920042640959050293443495877772569989943452828812034309832378483523988307027719915644914223692414885982173017899167137975226286177689083999850604968018704377322071058169397217580584409229304600951428285581278159187853909463441130934426514808312756529301395508601485262986779567666842358518486005160640716196011032272645503913007681138332129281471527910709812547818890785808916132955361669009690514928293548597555959757626102117954276850468479235) 0 13 10 0 false false)),
    (441, (.cells 0 (.lst 33 [i 1, o, S 435 0 0 13 13 1, i 1, o, S 582 0 0 16 16 1, i 1, o, S 735 0 0 16 16 1, i 1, o, S 1329 0 0 13 13 1, i 1, o, S 1716 0 0 24 24 1, i 1, o, S 1722 0 0 25 25 1, i 1, o, S 2026 0 0 16 16 1, i 1, o, S 2642 0 0 13 13 1, i 1, o, S 3029 0 0 24 24 1, i 1, o, S 3035 0 0 25 25 1, i 1, o, S 3339 0 0 16 16 1]) 0 3 10 0 false false)),
    (435, (B 13 316912650135562894202732896513)),
    (582, (B 16 2658455993899308755378002830995489024)),
    (735, (B 16 3987683989750119525917084813969416449)),
    (1329, (B 13 316912650136765236195207766274)),
    b0,
    b1,
    (2026, (B 16 3987683989731756852014800065179771138)),
    (2642, (B 13 316912650142391776956515442947)),
    b2,
    b3,
    (3339, (B 16 3987683989632802078961797899715961091)),
    (151, (L 2 [P 138, o])),
    (138, (L 8 [P 128, P 3202, m 134, m 135, P 104, m 136, m 137, N])),
    (128, (L 2 [t, m 127])),
    (127, (.map 0 [((a [o, s 1 97, i 1]), (a [o, s 1 97, i 1, N, i 1, N]), 0), ((a [o, s 1 97, i 2]), (a y11), 1), ((a [o, s 1 97, i 3]), (a y12), 2)] 3)),
    (1968, (L 3 [o, s 1 97, i 1])),
    (3281, (L 3 [o, s 1 97, i 2])),
    (3202, (L 5 [t, m 3212, m 3213, m 3214, m 3215])),
    (3212, (.map 0 [((.ifc 143 (P 1929)), (a [o, s 1 97, i 2, o]), 0), ((.ifc 143 (P 3242)), (a [o, s 1 97, i 3, o]), 1)] 2)),
    (1929, (L 9 y3)),
    (3242, (L 9 y4)),
    (3213, (.map 0 [((a [o, s 1 97, i 2, o]), P 1929, 0), ((a [o, s 1 97, i 3, o]), P 3242, 1)] 2)),
    (3214, (.map 0 [] 0)),
    (3215, (.map 0 [((a [o, s 1 97, i 2]), t, 0), ((a [o, s 1 97, i 3]), t, 1)] 2)),
    (134, (.map 0 [((a [o, s 1 97, i 1]), (a [o, e, o, o]), 0), ((a [o, s 1 97, i 2]), (a [o, s 1 97, i 2, o]), 1), ((a [o, s 1 97, i 3]), (a [o, s 1 97, i 3, o]), 2)] 3)),
    (135, (.map 0 [((a [o, s 1 97, i 1]), N, 0), ((a [o, s 1 97, i 2]), S 1888 0 0 1 1 20, 1), ((a [o, s 1 97, i 3]), S 3201 0 0 1 1 20, 2)] 3)),
    (1888, (L 20 y0)),
    (3201, (L 20 y1)),
    (136, (.map 0 [((a [o, s 1 97]), (a [o, s 1 97, i 3]), 0)] 1)),
    (137, (.map 0 [((a [o, s 1 97]), i 3, 0)] 1)),
    (154, (L 2 [o, s 1 97])),
    (155, (L 2 [o, s 1 98])),
    (2060, (L 7 [o, s 1 97, i 3, i 1, i 1, i 1, o])),
    (755, (L 6 [N, i 1, s 1 99, i 1, i 1, e])),
    (2059, (L 6 [N, i 1, s 1 99, i 1, i 2, e])),
    (1, (L 8 [i 100, o, N, N, N, N, o, N])),
    (18, (L 4 [o, o, o, o])),
    (25, (L 7 [o, e, o, o, o, o, o])),
    (32, (L 7 [o, e, o, o, o, o, o])),
    (38, (L 8 y9)),
    (40, (B 3 66051)),
    (36, (B 3 66051)),
    (102, (L 4 [o, o, o, o])),
    (34, (.cells 0 (.byt 3 66051) 0 0 0 0 false false))]

open ckS in
/-- A state on the way. -/
noncomputable def ck6 : Ck where
  cur := ⟨49, (v [(0, P 104), (2, M), (3, o), (4, P 5086), (5, S 5088 0 0 295 295 1), (6, o), (7, P 5089), (8, i 13), (9, P 5163), (10, P 5226), (11, o), (12, P 104), (13, P 4918), (14, f), (15, P 5075), (16, P 5080), (17, m 5081), (18, m 5082), (19, (a [P 5075, P 5080, m 5081, m 5082])), (20, P 104), (21, m 5083), (22, m 5084), (23, (a y31)), (24, P 5085), (25, (.tup [S 5088 0 0 295 295 1, o])), (26, P 104), (27, P 104), (28, o), (29, (.tup [S 5088 0 0 295 295 1, o])), (30, S 5088 0 0 295 295 1), (31, o), (32, S 5088 0 0 295 295 1), (33, (.fn (.func 157) [] [P 5092])), (34, i 13), (35, (a [i 2, S 5160 0 0 7 7 1])), (36, (.tup [(a y18), o])), (37, (a [i 2, S 5160 0 0 7 7 1])), (38, (.tup [(a y18), o])), (39, (a y18)), (40, o), (41, o), (42, f), (43, f), (44, m 5227), (45, P 5226), (46, i 2), (47, (.fn (.func 174) [] [])), (48, P 5085), (49, (a y18)), (50, t), (51, f), (52, f)]), [.code (zz 49 [1, 1, 1, 1, 1, 1, 1, 0, 1, 1, 1, 1, 1, 0, 1]), .code (zz 49 [1, 1, 1, 1, 1, 1, 1, 0, 1, 1, 1, 1, 1, 1]), .inBlock 1], [], .run, false, (some (q 5094))⟩
  callers := [⟨157, (v [(0, (.yield (q 5094))), (1, P 5092), (2, P 5095), (3, P 5096), (4, i 13), (5, P 5162), (6, S 5091 0 0 295 295 1), (7, (.fn (.func 232) [] [P 5097, P 5098])), (8, i 13), (9, (a [i 2, S 5160 0 0 7 7 1])), (10, (.yield (q 5094))), (11, i 13), (12, (a [i 2, S 5160 0 0 7 7 1]))]), [.ops (oAt (zz 157 [1, 1, 1, 1, 1, 1, 0]) 3), .code (zz 157 [1, 1, 1, 1, 1, 1, 1]), .inBlock 1], [], .run, false, (some (q 5100))⟩, ⟨232, (v [(0, (.yield (q 5100))), (1, P 5097), (2, P 5098), (4, i 13), (5, P 5161), (6, i 16), (7, o), (8, i 13), (9, S 5091 0 0 295 295 1), (10, i 295), (11, t), (12, (.tup [(a [i 2, S 5160 0 0 7 7 1]), i 16, o])), (13, S 5091 0 0 295 295 1), (14, i 13), (15, S 5091 0 13 282 282 1), (16, (.tup [(a [i 2, S 5160 0 0 7 7 1]), i 16, o])), (17, (a [i 2, S 5160 0 0 7 7 1])), (18, i 16), (19, o), (20, o), (21, f), (25, (.yield (q 5100))), (26, i 13), (27, (a [i 2, S 5160 0 0 7 7 1])), (28, t), (29, f), (30, o), (31, i 13), (32, i 13)]), [.ops (oAt (zz 232 [1, 1, 1, 1, 1, 1, 1, 1, 1, 0, 0]) 3), .code (zz 232 [1, 1, 1, 1, 1, 1, 1, 1, 1, 0, 1]), .code (zz 232 [1, 1, 1, 1, 1, 1, 1, 1, 1, 1]), .inBlock 1, .inLoop (zz 232 [1, 1, 1, 1, 1]), .inBlock 0, .inScope (zz 232 [1])], [], .run, false, none⟩, f1, f2, f3, f4, f5, f0]
  next := (q 5322)
  ser := 4773
  bs := w [(104, (L 8 y53)),
    b4,
    b5,
    (435, (B 13 316912650135562894202732896513)),
    (582, (B 16 2658455993899308755378002830995489024)),
    (735, (B 16 3987683989750119525917084813969416449)),
    (1329, (B 13 316912650136765236195207766274)),
    b0,
    b1,
    (2026, (B 16 3987683989731756852014800065179771138)),
    (2642, (B 13 316912650142391776956515442947)),
    b2,
    b3,
    (3339, (B 16 3987683989632802078961797899715961091)),
    (3436, (B 16 3987683989545847660814512321527374083)),
    (4025, (B 13 316912650139318993637393654273)),
    b6,
    b7,
    (4722, (B 16 3987683989755313683660252679566877185)),
    (5086, (L 1 [P 5085])),
    (5085, (L 8 [P 5075, P 5284, m 5081, m 5082, P 104, m 5083, m 5084, N])),
    (5075, (L 2 [t, m 5074])),
    (5074, (.map 0 [((a [o, s 1 97, i 1]), (a y32), 0)] 1)),
    (5321, (L 0 [])),
    (5284, (L 5 [t, m 5293, m 5294, m 5295, m 5296])),
    (5293, (.map 0 [] 0)),
    (5294, (.map 0 [] 0)),
    (5295, (.map 0 [] 0)),
    (5296, (.map 0 [] 0)),
    (5081, (.map 0 [((a [o, s 1 97, i 1]), (a [o, e, o, o]), 0)] 1)),
    (5082, (.map 0 [((a [o, s 1 97, i 1]), N, 0)] 1)),
    (5083, (.map 0 [] 0)),
    (5084, (.map 0 [((a [o, s 1 97]), i 1, 0)] 1)),
    b8,
    (5089, (L 1 [i 13])),
    (5163, (L 2 [i 2, S 5160 0 0 7 7 1])),
    (5160, (B 7 1516140232960)),
    (5226, (L 39 y18)),
    (5188, (L 0 [])),
    b9,
    b10,
    b11,
    (4931, (B 13 316912650135562894202732896513)),
    (4942, (B 16 2658455993899308755378002830995489024)),
    (4951, (B 16 3987683989750119525917084813969416449)),
    (4960, (B 13 316912650136765236195207766274)),
    b12,
    b13,
    (4987, (B 16 3987683989731756852014800065179771138)),
    (4996, (B 13 316912650142391776956515442947)),
    b14,
    b15,
    (5023, (B 16 3987683989632802078961797899715961091)),
    (5032, (B 16 3987683989545847660814512321527374083)),
    (5041, (B 13 316912650139318993637393654273)),
    b16,
    b17,
    (5068, (B 16 3987683989755313683660252679566877185)),
    (5080, (L 5 [t, m 5076, m 5077, m 5078, m 5079])),
    (5076, (.map 0 [] 0)),
    (5077, (.map 0 [] 0)),
    (5078, (.map 0 [] 0)),
    (5079, (.map 0 [] 0)),
    (5092, (L 1 [S 5091 0 0 295 295 1])),
    b18,
    (5227, (.map 0 [((i 1), (.fn (.func 173) [] []), 0), ((i 2), (.fn (.func 174) [] []), 1), ((i 3), (.fn (.func 175) [] []), 2), ((i 4), (.fn (.func 176) [] []), 3), ((i 5), (.fn (.func 177) [] []), 4)] 5)),
    b19,
    (5093, (.dfr 4566)),
    (5095, (L 1 [(.yield (q 5094))])),
    (5096, (L 1 [o])),
    (5162, (L 2 [i 2, S 5160 0 0 7 7 1])),
    (5097, (L 1 [S 5091 0 0 295 295 1])),
    (5098, (L 1 [P 5096])),
    b20,
    (5099, (.dfr 4572)),
    (5161, (L 2 [i 2, S 5160 0 0 7 7 1])),
    b21,
    b22,
    b23,
    (4772, (B 13 316912650135562894202732896513)),
    (4783, (B 16 2658455993899308755378002830995489024)),
    (4792, (B 16 3987683989750119525917084813969416449)),
    (4801, (B 13 316912650136765236195207766274)),
    b24,
    b25,
    (4828, (B 16 3987683989731756852014800065179771138)),
    (4837, (B 13 316912650142391776956515442947)),
    b26,
    b27,
    (4864, (B 16 3987683989632802078961797899715961091)),
    (4873, (B 16 3987683989545847660814512321527374083)),
    (4882, (B 13 316912650139318993637393654273)),
    b28,
    b29,
    (4909, (B 16 3987683989755313683660252679566877185)),
    (4755, (L 4 [o, o, o, o])),
    (151, (L 2 [P 138, o])),
    (138, (L 8 y10)),
    (128, (L 2 [t, m 127])),
    b30,
    (1968, (L 3 [o, s 1 97, i 1])),
    (3281, (L 3 [o, s 1 97, i 2])),
    (4664, (L 3 [o, s 1 97, i 3])),
    (4585, (L 5 [t, m 4595, m 4596, m 4597, m 4598])),
    b31,
    (1929, (L 9 y3)),
    (3242, (L 9 y4)),
    (4625, (L 9 y5)),
    b32,
    (4597, (.map 0 [] 0)),
    b33,
    b34,
    b35,
    (1888, (L 20 y0)),
    (3201, (L 20 y1)),
    (4584, (L 20 y2)),
    b36,
    b37,
    (154, (L 2 [o, s 1 97])),
    (155, (L 2 [o, s 1 98])),
    (2060, (L 7 [o, s 1 97, i 3, i 1, i 1, i 1, o])),
    (755, (L 6 [N, i 1, s 1 99, i 1, i 1, e])),
    (2059, (L 6 [N, i 1, s 1 99, i 1, i 2, e])),
    (3372, (L 3 [o, s 1 97, i 3])),
    (3441, (L 6 [N, i 1, s 1 99, i 1, i 3, e])),
    (1, (L 8 [i 100, o, N, N, N, N, o, N])),
    (18, (L 4 [o, o, o, o])),
    (25, (L 7 [o, e, o, o, o, o, o])),
    (32, (L 7 [o, e, o, o, o, o, o])),
    (38, (L 8 y9)),
    (40, (B 3 66051)),
    (36, (B 3 66051)),
    (102, (L 4 [o, o, o, o])),
    (34, (.cells 0 (.byt 3 66051) 0 0 0 0 false false))]

open ckS in
/-- A state on the way. -/
noncomputable def ck9 : Ck where
  cur := ⟨65, (v [(0, (a y27)), (1, P 6119), (2, N), (3, P 6120), (4, S 6162 7 0 15 15 1), (5, (a y27)), (6, P 6119), (7, i 1), (8, t), (9, t), (18, p 6119 0 1), (19, (a y1)), (20, S 6162 7 0 15 15 1), (21, (a [o, e, o, o, o, e, o, o, o, e, o, o, e, o, o, e, o, e, o, o])), (22, p 6120 0 1), (67, S 6162 7 0 15 15 1), (68, t), (69, t), (70, (a y25)), (71, P 6119), (72, i 1), (73, (a y25))]), [.ops (oAt (zz 65 [1, 1, 1, 1, 0]) 7), .code (zz 65 [1, 1, 1, 1, 1])], [], .run, false, none⟩
  callers := [⟨160, (v [(0, P 6085), (1, P 6090), (2, P 6092), (3, P 6093), (4, p 6085 0 1), (5, S 6081 0 0 15 15 1), (6, P 6092), (7, P 6085), (8, i 1), (9, (a y25)), (10, P 6093), (11, i 1), (12, t), (13, t), (14, P 6092), (15, (.tup [(a y1), o])), (16, (a y1)), (17, o), (18, (a y1)), (19, p 6093 0 1), (57, P 6092), (58, o), (59, o), (60, (a y27))]), [.ops (oAt (zz 160 [1, 1, 1, 1, 1, 0]) 1), .code (zz 160 [1, 1, 1, 1, 1, 1])], [], .run, false, none⟩, ⟨159, (v [(0, i 4), (1, (.fn (.func 160) [] [P 6085])), (2, P 6087), (4, P 6088), (5, P 6089), (6, (.fn (.func 234) [] [P 6087, P 6088, P 6089])), (7, (.fn (.func 160) [] [P 6085]))]), [.ops (oAt (zz 159 [1, 1, 0]) 1), .code .ret], [.call 234 [P 6087, P 6088, P 6089]], .run, false, none⟩, ⟨93, (v [(0, (a [i 1, S 6081 0 0 15 15 1])), (1, P 6085), (2, P 6086), (3, o), (4, (.fn (.func 160) [] [P 6085]))]), [.ops (oAt (zz 93 [1, 0]) 1), .code .ret], [], .run, false, none⟩, ⟨49, (v [(0, P 104), (2, M), (3, o), (4, P 5086), (5, S 5088 0 0 295 295 1), (6, o), (7, P 5089), (8, i 136), (9, P 6084), (12, P 104), (13, P 4918), (14, f), (15, P 5075), (16, P 5080), (17, m 5081), (18, m 5082), (19, (a [P 5075, P 5080, m 5081, m 5082])), (20, P 104), (21, m 5083), (22, m 5084), (23, (a y31)), (24, P 5085), (25, (.tup [S 5088 0 0 295 295 1, o])), (26, P 104), (27, P 104), (28, o), (29, (.tup [S 5088 0 0 295 295 1, o])), (30, S 5088 0 0 295 295 1), (31, o), (32, S 5088 0 0 295 295 1), (33, (.fn (.func 157) [] [P 5092])), (34, i 136), (35, (a [i 1, S 6081 0 0 15 15 1])), (37, (a [i 1, S 6081 0 0 15 15 1]))]), [.ops (oAt (zz 49 [1, 1, 1, 1, 1, 1, 1, 0, 1, 1, 1, 1, 0]) 1), .code (zz 49 [1, 1, 1, 1, 1, 1, 1, 0, 1, 1, 1, 1, 1]), .inBlock 1], [], .run, false, (some (q 5094))⟩, ⟨157, (v [(0, (.yield (q 5094))), (1, P 5092), (2, P 5095), (3, P 5096), (4, i 136), (5, P 6083), (6, S 5091 0 0 295 295 1), (7, (.fn (.func 232) [] [P 5097, P 5098])), (8, i 136), (9, (a [i 1, S 6081 0 0 15 15 1])), (10, (.yield (q 5094))), (11, i 136), (12, (a [i 1, S 6081 0 0 15 15 1]))]), [.ops (oAt (zz 157 [1, 1, 1, 1, 1, 1, 0]) 3), .code (zz 157 [1, 1, 1, 1, 1, 1, 1]), .inBlock 1], [], .run, false, (some (q 5100))⟩, ⟨232, (v [(0, (.yield (q 5100))), (1, P 5097), (2, P 5098), (4, i 136), (5, P 6082), (6, i 24), (7, o), (8, i 136), (9, S 5091 0 0 295 295 1), (10, i 295), (11, t), (12, (.tup [(a [i 1, S 6081 0 0 15 15 1]), i 24, o])), (13, S 5091 0 0 295 295 1), (14, i 136), (15, S 5091 0 136 159 159 1), (16, (.tup [(a [i 1, S 6081 0 0 15 15 1]), i 24, o])), (17, (a [i 1, S 6081 0 0 15 15 1])), (18, i 24), (19, o), (20, o), (21, f), (25, (.yield (q 5100))), (26, i 136), (27, (a [i 1, S 6081 0 0 15 15 1])), (28, t), (29, f), (30, i 123), (31, i 13), (32, i 136)]), [.ops (oAt (zz 232 [1, 1, 1, 1, 1, 1, 1, 1, 1, 0, 0]) 3), .code (zz 232 [1, 1, 1, 1, 1, 1, 1, 1, 1, 0, 1]), .code (zz 232 [1, 1, 1, 1, 1, 1, 1, 1, 1, 1]), .inBlock 1, .inLoop (zz 232 [1, 1, 1, 1, 1]), .inBlock 0, .inScope (zz 232 [1])], [], .run, false, none⟩, f1, f2, f3, f4, f5, f0]
  next := (q 6163)
  ser := 5521
  bs := w [(6119, (L 39 y27)),
    (6120, (L 39 y25)),
    (6162, (.cells 1 (.byt 15 5192406110370072022748118385033216) 0 6 7 0 false false)),
    (6085, (L 2 [i 1, S 6081 0 0 15 15 1])),
    (6081, (B 15 5192406110370072022748118385033216)),
    (6090, (L 39 y7)),
    (6092, (L 2 [(.sl (q 6091) 0 0 15 16 true 1), i 15])),
    (6091, (B 16 1329255964254738437823518306568503296)),
    (6093, (L 39 y27)),
    (6087, (L 1 [i 4])),
    (6088, (L 39 y7)),
    (6089, (L 1 [o])),
    (6086, (L 39 y7)),
    (104, (L 8 y53)),
    b4,
    b5,
    (435, (B 13 316912650135562894202732896513)),
    (582, (B 16 2658455993899308755378002830995489024)),
    (735, (B 16 3987683989750119525917084813969416449)),
    (1329, (B 13 316912650136765236195207766274)),
    b0,
    b1,
    (2026, (B 16 3987683989731756852014800065179771138)),
    (2642, (B 13 316912650142391776956515442947)),
    b2,
    b3,
    (3339, (B 16 3987683989632802078961797899715961091)),
    (3436, (B 16 3987683989545847660814512321527374083)),
    (4025, (B 13 316912650139318993637393654273)),
    b6,
    b7,
    (4722, (B 16 3987683989755313683660252679566877185)),
    (5086, (L 1 [P 5085])),
    (5085, (L 8 [P 5075, P 5858, m 5081, m 5082, P 104, m 5083, m 5084, N])),
    (5075, (L 2 [t, m 5074])),
    (5074, (.map 0 [((a [o, s 1 97, i 1]), (a y32), 0), ((a [o, s 1 97, i 2]), (a y46), 1)] 2)),
    (5321, (L 0 [])),
    (5937, (L 3 [o, s 1 97, i 1])),
    (5858, (L 5 [t, m 5868, m 5869, m 5870, m 5871])),
    (5868, (.map 0 [((.ifc 143 (P 5898)), (a [o, s 1 97, i 2, o]), 0)] 1)),
    (5898, (L 9 y3)),
    (5869, (.map 0 [((a [o, s 1 97, i 2, o]), P 5898, 0)] 1)),
    (5870, (.map 0 [] 0)),
    (5871, (.map 0 [((a [o, s 1 97, i 2]), t, 0)] 1)),
    (5081, (.map 0 [((a [o, s 1 97, i 1]), (a [o, e, o, o]), 0), ((a [o, s 1 97, i 2]), (a [o, s 1 97, i 2, o]), 1)] 2)),
    (5082, (.map 0 [((a [o, s 1 97, i 1]), N, 0), ((a [o, s 1 97, i 2]), S 5857 0 0 1 1 20, 1)] 2)),
    (5857, (L 20 y0)),
    (5083, (.map 0 [((a [o, s 1 97]), (a [o, s 1 97, i 2]), 0)] 1)),
    (5084, (.map 0 [((a [o, s 1 97]), i 3, 0)] 1)),
    b8,
    (5089, (L 1 [i 136])),
    (6084, (L 2 [i 1, S 6081 0 0 15 15 1])),
    b9,
    b10,
    b11,
    (4931, (B 13 316912650135562894202732896513)),
    (4942, (B 16 2658455993899308755378002830995489024)),
    (4951, (B 16 3987683989750119525917084813969416449)),
    (4960, (B 13 316912650136765236195207766274)),
    b12,
    b13,
    (4987, (B 16 3987683989731756852014800065179771138)),
    (4996, (B 13 316912650142391776956515442947)),
    b14,
    b15,
    (5023, (B 16 3987683989632802078961797899715961091)),
    (5032, (B 16 3987683989545847660814512321527374083)),
    (5041, (B 13 316912650139318993637393654273)),
    b16,
    b17,
    (5068, (B 16 3987683989755313683660252679566877185)),
    (5080, (L 5 [t, m 5076, m 5077, m 5078, m 5079])),
    (5076, (.map 0 [] 0)),
    (5077, (.map 0 [] 0)),
    (5078, (.map 0 [] 0)),
    (5079, (.map 0 [] 0)),
    (5092, (L 1 [S 5091 0 0 295 295 1])),
    b18,
    b19,
    (5093, (.dfr 4566)),
    (5095, (L 1 [(.yield (q 5094))])),
    (5096, (L 1 [o])),
    (6083, (L 2 [i 1, S 6081 0 0 15 15 1])),
    (5097, (L 1 [S 5091 0 0 295 295 1])),
    (5098, (L 1 [P 5096])),
    b20,
    (5099, (.dfr 4572)),
    (6082, (L 2 [i 1, S 6081 0 0 15 15 1])),
    b21,
    b22,
    b23,
    (4772, (B 13 316912650135562894202732896513)),
    (4783, (B 16 2658455993899308755378002830995489024)),
    (4792, (B 16 3987683989750119525917084813969416449)),
    (4801, (B 13 316912650136765236195207766274)),
    b24,
    b25,
    (4828, (B 16 3987683989731756852014800065179771138)),
    (4837, (B 13 316912650142391776956515442947)),
    b26,
    b27,
    (4864, (B 16 3987683989632802078961797899715961091)),
    (4873, (B 16 3987683989545847660814512321527374083)),
    (4882, (B 13 316912650139318993637393654273)),
    b28,
    b29,
    (4909, (B 16 3987683989755313683660252679566877185)),
    (4755, (L 4 [o, o, o, o])),
    (151, (L 2 [P 138, o])),
    (138, (L 8 y10)),
    (128, (L 2 [t, m 127])),
    b30,
    (1968, (L 3 [o, s 1 97, i 1])),
    (3281, (L 3 [o, s 1 97, i 2])),
    (4664, (L 3 [o, s 1 97, i 3])),
    (4585, (L 5 [t, m 4595, m 4596, m 4597, m 4598])),
    b31,
    (1929, (L 9 y3)),
    (3242, (L 9 y4)),
    (4625, (L 9 y5)),
    b32,
    (4597, (.map 0 [] 0)),
    b33,
    b34,
    b35,
    (1888, (L 20 y0)),
    (3201, (L 20 y1)),
    (4584, (L 20 y2)),
    b36,
    b37,
    (154, (L 2 [o, s 1 97])),
    (155, (L 2 [o, s 1 98])),
    (2060, (L 7 [o, s 1 97, i 3, i 1, i 1, i 1, o])),
    (755, (L 6 [N, i 1, s 1 99, i 1, i 1, e])),
    (2059, (L 6 [N, i 1, s 1 99, i 1, i 2, e])),
    (3372, (L 3 [o, s 1 97, i 3])),
    (3441, (L 6 [N, i 1, s 1 99, i 1, i 3, e])),
    (1, (L 8 [i 100, o, N, N, N, N, o, N])),
    (18, (L 4 [o, o, o, o])),
    (25, (L 7 [o, e, o, o, o, o, o])),
    (32, (L 7 [o, e, o, o, o, o, o])),
    (38, (L 8 y9)),
    (40, (B 3 66051)),
    (36, (B 3 66051)),
    (102, (L 4 [o, o, o, o])),
    (34, (.cells 0 (.byt 3 66051) 0 0 0 0 false false))]

open ckS in
/-- A state on the way. -/
noncomputable def ck12 : Ck where
  cur := ⟨49, (v [(0, P 104), (2, M), (3, o), (4, P 5086), (5, S 5088 0 0 295 295 1), (6, o), (7, P 5089), (8, i 254), (9, P 6880), (10, P 7009), (11, o), (12, P 104), (13, P 4918), (14, f), (15, P 5075), (16, P 5080), (17, m 5081), (18, m 5082), (19, (a [P 5075, P 5080, m 5081, m 5082])), (20, P 104), (21, m 5083), (22, m 5084), (23, (a y31)), (24, P 5085), (25, (.tup [S 5088 0 0 295 295 1, o])), (26, P 104), (27, P 104), (28, o), (29, (.tup [S 5088 0 0 295 295 1, o])), (30, S 5088 0 0 295 295 1), (31, o), (32, S 5088 0 0 295 295 1), (33, (.fn (.func 157) [] [P 5092])), (34, i 254), (35, (a [i 2, S 6877 0 0 16 16 1])), (36, (.tup [(a y24), o])), (37, (a [i 2, S 6877 0 0 16 16 1])), (38, (.tup [(a y24), o])), (39, (a y24)), (40, o), (41, o), (42, f), (43, f), (44, m 7010), (45, P 7009), (46, i 2), (47, (.fn (.func 174) [] [])), (48, P 5085), (49, (a y24)), (50, t), (51, f), (52, f)]), [.code (zz 49 [1, 1, 1, 1, 1, 1, 1, 0, 1, 1, 1, 1, 1, 0, 1]), .code (zz 49 [1, 1, 1, 1, 1, 1, 1, 0, 1, 1, 1, 1, 1, 1]), .inBlock 1], [], .run, false, (some (q 5094))⟩
  callers := [⟨157, (v [(0, (.yield (q 5094))), (1, P 5092), (2, P 5095), (3, P 5096), (4, i 254), (5, P 6879), (6, S 5091 0 0 295 295 1), (7, (.fn (.func 232) [] [P 5097, P 5098])), (8, i 254), (9, (a [i 2, S 6877 0 0 16 16 1])), (10, (.yield (q 5094))), (11, i 254), (12, (a [i 2, S 6877 0 0 16 16 1]))]), [.ops (oAt (zz 157 [1, 1, 1, 1, 1, 1, 0]) 3), .code (zz 157 [1, 1, 1, 1, 1, 1, 1]), .inBlock 1], [], .run, false, (some (q 5100))⟩, ⟨232, (v [(0, (.yield (q 5100))), (1, P 5097), (2, P 5098), (4, i 254), (5, P 6878), (6, i 25), (7, o), (8, i 254), (9, S 5091 0 0 295 295 1), (10, i 295), (11, t), (12, (.tup [(a [i 2, S 6877 0 0 16 16 1]), i 25, o])), (13, S 5091 0 0 295 295 1), (14, i 254), (15, S 5091 0 254 41 41 1), (16, (.tup [(a [i 2, S 6877 0 0 16 16 1]), i 25, o])), (17, (a [i 2, S 6877 0 0 16 16 1])), (18, i 25), (19, o), (20, o), (21, f), (25, (.yield (q 5100))), (26, i 254), (27, (a [i 2, S 6877 0 0 16 16 1])), (28, t), (29, f), (30, i 230), (31, i 24), (32, i 254)]), [.ops (oAt (zz 232 [1, 1, 1, 1, 1, 1, 1, 1, 1, 0, 0]) 3), .code (zz 232 [1, 1, 1, 1, 1, 1, 1, 1, 1, 0, 1]), .code (zz 232 [1, 1, 1, 1, 1, 1, 1, 1, 1, 1]), .inBlock 1, .inLoop (zz 232 [1, 1, 1, 1, 1]), .inBlock 0, .inScope (zz 232 [1])], [], .run, false, none⟩, f1, f2, f3, f4, f5, f0]
  next := (q 7254)
  ser := 6493
  bs := w [(104, (L 8 y53)),
    b4,
    b5,
    (435, (B 13 316912650135562894202732896513)),
    (582, (B 16 2658455993899308755378002830995489024)),
    (735, (B 16 3987683989750119525917084813969416449)),
    (1329, (B 13 316912650136765236195207766274)),
    b0,
    b1,
    (2026, (B 16 3987683989731756852014800065179771138)),
    (2642, (B 13 316912650142391776956515442947)),
    b2,
    b3,
    (3339, (B 16 3987683989632802078961797899715961091)),
    (3436, (B 16 3987683989545847660814512321527374083)),
    (4025, (B 13 316912650139318993637393654273)),
    b6,
    b7,
    (4722, (B 16 3987683989755313683660252679566877185)),
    (5086, (L 1 [P 5085])),
    (5085, (L 8 y40)),
    (5075, (L 2 [t, m 5074])),
    b38,
    (5321, (L 0 [])),
    (5937, (L 3 [o, s 1 97, i 1])),
    (6553, (L 3 [o, s 1 97, i 2])),
    (7253, (L 3 [o, s 1 97, i 3])),
    (7174, (L 5 [t, m 7184, m 7185, m 7186, m 7187])),
    b39,
    (5898, (L 9 y3)),
    (6514, (L 9 y4)),
    (7214, (L 9 y5)),
    b40,
    (7186, (.map 0 [] 0)),
    b41,
    b42,
    b43,
    (5857, (L 20 y0)),
    (6473, (L 20 y1)),
    (7173, (L 20 y2)),
    (5083, (.map 0 [((a [o, s 1 97]), (a [o, s 1 97, i 3]), 0), ((a [o, s 1 98]), (a [o, s 1 97, i 3]), 1)] 2)),
    b44,
    b8,
    (5089, (L 1 [i 254])),
    (6880, (L 2 [i 2, S 6877 0 0 16 16 1])),
    (6877, (B 16 7180052537346727333717790251155712)),
    (7009, (L 39 y24)),
    (6920, (L 3 [o, s 1 97, i 3])),
    b9,
    b10,
    b11,
    (4931, (B 13 316912650135562894202732896513)),
    (4942, (B 16 2658455993899308755378002830995489024)),
    (4951, (B 16 3987683989750119525917084813969416449)),
    (4960, (B 13 316912650136765236195207766274)),
    b12,
    b13,
    (4987, (B 16 3987683989731756852014800065179771138)),
    (4996, (B 13 316912650142391776956515442947)),
    b14,
    b15,
    (5023, (B 16 3987683989632802078961797899715961091)),
    (5032, (B 16 3987683989545847660814512321527374083)),
    (5041, (B 13 316912650139318993637393654273)),
    b16,
    b17,
    (5068, (B 16 3987683989755313683660252679566877185)),
    (5080, (L 5 [t, m 5076, m 5077, m 5078, m 5079])),
    (5076, (.map 0 [] 0)),
    (5077, (.map 0 [] 0)),
    (5078, (.map 0 [] 0)),
    (5079, (.map 0 [] 0)),
    (5092, (L 1 [S 5091 0 0 295 295 1])),
    b18,
    (7010, (.map 0 [((i 1), (.fn (.func 173) [] []), 0), ((i 2), (.fn (.func 174) [] []), 1), ((i 3), (.fn (.func 175) [] []), 2), ((i 4), (.fn (.func 176) [] []), 3), ((i 5), (.fn (.func 177) [] []), 4)] 5)),
    b19,
    (5093, (.dfr 4566)),
    (5095, (L 1 [(.yield (q 5094))])),
    (5096, (L 1 [o])),
    (6879, (L 2 [i 2, S 6877 0 0 16 16 1])),
    (5097, (L 1 [S 5091 0 0 295 295 1])),
    (5098, (L 1 [P 5096])),
    b20,
    (5099, (.dfr 4572)),
    (6878, (L 2 [i 2, S 6877 0 0 16 16 1])),
    b21,
    b22,
    b23,
    (4772, (B 13 316912650135562894202732896513)),
    (4783, (B 16 2658455993899308755378002830995489024)),
    (4792, (B 16 3987683989750119525917084813969416449)),
    (4801, (B 13 316912650136765236195207766274)),
    b24,
    b25,
    (4828, (B 16 3987683989731756852014800065179771138)),
    (4837, (B 13 316912650142391776956515442947)),
    b26,
    b27,
    (4864, (B 16 3987683989632802078961797899715961091)),
    (4873, (B 16 3987683989545847660814512321527374083)),
    (4882, (B 13 316912650139318993637393654273)),
    b28,
    b29,
    (4909, (B 16 3987683989755313683660252679566877185)),
    (4755, (L 4 [o, o, o, o])),
    (151, (L 2 [P 138, o])),
    (138, (L 8 y10)),
    (128, (L 2 [t, m 127])),
    b30,
    (1968, (L 3 [o, s 1 97, i 1])),
    (3281, (L 3 [o, s 1 97, i 2])),
    (4664, (L 3 [o, s 1 97, i 3])),
    (4585, (L 5 [t, m 4595, m 4596, m 4597, m 4598])),
    b31,
    (1929, (L 9 y3)),
    (3242, (L 9 y4)),
    (4625, (L 9 y5)),
    b32,
    (4597, (.map 0 [] 0)),
    b33,
    b34,
    b35,
    (1888, (L 20 y0)),
    (3201, (L 20 y1)),
    (4584, (L 20 y2)),
    b36,
    b37,
    (154, (L 2 [o, s 1 97])),
    (155, (L 2 [o, s 1 98])),
    (2060, (L 7 [o, s 1 97, i 3, i 1, i 1, i 1, o])),
    (755, (L 6 [N, i 1, s 1 99, i 1, i 1, e])),
    (2059, (L 6 [N, i 1, s 1 99, i 1, i 2, e])),
    (3372, (L 3 [o, s 1 97, i 3])),
    (3441, (L 6 [N, i 1, s 1 99, i 1, i 3, e])),
    (1, (L 8 [i 100, o, N, N, N, N, o, N])),
    (18, (L 4 [o, o, o, o])),
    (25, (L 7 [o, e, o, o, o, o, o])),
    (32, (L 7 [o, e, o, o, o, o, o])),
    (38, (L 8 y9)),
    (40, (B 3 66051)),
    (36, (B 3 66051)),
    (102, (L 4 [o, o, o, o])),
    (34, (.cells 0 (.byt 3 66051) 0 0 0 0 false false))]

open ckS in
/-- A state on the way. -/
noncomputable def ck16 : Ck where
  cur := ⟨62, (v [(0, P 7900), (1, S 7960 2 0 24 24 1), (2, P 7900), (3, i 1), (4, (a y8)), (5, S 7947 7 0 15 15 1), (6, (.tup [S 7960 2 0 24 24 1, o])), (7, S 7960 2 0 24 24 1), (8, o), (9, S 7960 2 0 24 24 1)]), [.code .ret], [], .run, false, none⟩
  callers := [⟨61, (v [(0, i 2), (1, (.fn (.func 62) [] [P 7900])), (2, P 7901), (4, P 7902), (5, P 7903), (6, (.fn (.func 110) [] [P 7901, P 7902, P 7903])), (7, (.fn (.func 62) [] [P 7900]))]), [.ops (oAt (zz 61 [1, 1, 0]) 1), .code .ret], [.call 110 [P 7901, P 7902, P 7903]], .run, false, none⟩, ⟨27, (v [(0, (a y8)), (1, P 7900), (2, N), (3, o), (4, (.fn (.func 62) [] [P 7900]))]), [.ops (oAt (zz 27 [1, 0]) 1), .code .ret], [], .run, false, none⟩, ⟨16, (v [(0, (a y8)), (1, P 7899), (2, o), (3, o), (7, (a y8))]), [.ops (oAt (zz 16 [1, 0]) 1), .code (zz 16 [1, 1])], [], .run, false, none⟩, ⟨5, (v [(0, P 7338), (2, P 7340), (3, P 7341), (4, P 7342), (5, o), (6, P 7898), (9, P 7338), (10, P 5085), (11, f), (12, P 7338), (13, (.fn (.func 44) [] [P 7343])), (14, (a y8)), (16, (a y8))]), [.ops (oAt (zz 5 [1, 1, 0, 1, 1, 1, 1, 0]) 1), .code (zz 5 [1, 1, 0, 1, 1, 1, 1, 1]), .inBlock 1], [], .run, false, (some (q 7345))⟩, ⟨44, (v [(0, (.yield (q 7345))), (1, P 7343), (3, P 5085), (5, P 7386), (7, P 7874), (8, P 7896), (9, o), (11, P 7897), (14, P 7338), (15, P 5085), (16, P 5085), (17, S 7347 1 0 2 2 2), (18, i 2), (19, i 2), (20, f), (21, p 7347 1 2), (22, (a [o, s 1 98])), (23, (.yield (q 7345))), (24, (a [o, s 1 98])), (25, P 5085), (26, (a [o, s 1 98])), (27, i 1), (28, (a y47)), (29, t), (30, f), (31, i 2), (32, P 7338), (33, S 7456 3 0 4 4 3), (34, i 4), (35, i 3), (36, t), (37, p 7456 3 9), (38, (a [o, s 1 98, i 1])), (39, (.tup [(a y48), o])), (40, P 7338), (41, (a [o, s 1 98, i 1])), (42, (.tup [(a y48), o])), (43, (a y48)), (44, o), (45, p 7896 0 10), (46, S 7895 0 0 1 1 20), (47, i 1), (48, o), (49, t), (50, P 7895), (51, (a y2)), (52, (.yield (q 7345))), (53, (a y2)), (54, (a y8)), (55, t), (56, f), (57, i 1), (58, (.yield (q 7345))), (59, P 7722), (60, (a [o, s 1 97, i 3, S 7719 0 0 1 1 3, i 3, N])), (61, p 7722 0 6), (62, (a [o, s 1 97, i 3, o])), (63, (a [i 2, o, e, o, o, o, e, o, o, o, e, o, o, e, o, o, e, o, e, o, o, o, s 1 97, i 3, S 7719 0 0 1 1 3, i 3, N, o, s 1 97, i 3, o, o, e, o, e, o, o, e, o])), (64, t), (65, f), (66, i 3)]), [.ops (oAt (zz 44 [1, 1, 0, 1, 1, 1, 1, 1, 0, 1, 1, 1, 0, 1, 1, 1, 1, 1, 0, 1, 1, 0]) 3), .code (zz 44 [1, 1, 0, 1, 1, 1, 1, 1, 0, 1, 1, 1, 0, 1, 1, 1, 1, 1, 0, 1, 1, 1]), .inBlock 5, .code (zz 44 [1, 1, 0, 1, 1, 1, 1, 1, 0, 1, 1, 1, 0, 1, 1, 1, 1, 1, 1]), .inLoop (zz 44 [1, 1, 0, 1, 1, 1, 1, 1, 0, 1, 1, 1, 0, 1, 1, 1]), .inBlock 4, .code (zz 44 [1, 1, 0, 1, 1, 1, 1, 1, 0, 1, 1, 1, 1]), .inBlock 3, .code (zz 44 [1, 1, 0, 1, 1, 1, 1, 1, 1]), .inLoop (zz 44 [1, 1, 0, 1, 1, 1]), .inBlock 2, .code (zz 44 [1, 1, 1])], [], .run, false, none⟩, ⟨5, (v [(0, P 7338), (2, P 7340), (3, P 7341), (4, P 7342), (5, o), (9, P 7338), (10, P 5085), (11, f), (12, P 7338), (13, (.fn (.func 44) [] [P 7343]))]), [.inRange (q 7345), .inBlock 0, .code (zz 5 [1, 1, 1])], [.mark (q 7344)], .run, false, none⟩, ⟨6, (v [(0, P 104), (1, o), (4, M), (5, P 4755), (6, o), (7, P 7339), (8, o), (31, (.tup [P 7338, o])), (32, o), (33, P 104), (34, (.tup [P 7338, o])), (35, P 7338), (36, o), (37, o), (38, f), (42, P 7338)]), [.ops (oAt (zz 6 [1, 1, 1, 0]) 1), .code (zz 6 [1, 1, 1, 1])], [], .run, false, none⟩, f5, f0]
  next := (q 7961)
  ser := 7116
  bs := w [(7900, (L 39 y8)),
    (7960, (.cells 1 (.byt 24 24519928739568825725257676333165822500868260528386736128) 0 5 2 0 false false)),
    (7947, (.cells 1 (.byt 15 5192406417437230204863928760795136) 0 6 7 0 false false)),
    (7901, (L 1 [i 2])),
    (7902, (L 1 [N])),
    (7903, (L 1 [o])),
    (7899, (L 39 y8)),
    (7338, (L 2 [P 5085, o])),
    (5085, (L 8 y40)),
    (5075, (L 2 [t, m 5074])),
    b38,
    (5321, (L 0 [])),
    (5937, (L 3 [o, s 1 97, i 1])),
    (6553, (L 3 [o, s 1 97, i 2])),
    (7253, (L 3 [o, s 1 97, i 3])),
    (7174, (L 5 [t, m 7184, m 7185, m 7186, m 7187])),
    b39,
    (5898, (L 9 y3)),
    (6514, (L 9 y4)),
    (7214, (L 9 y5)),
    b40,
    (7186, (.map 0 [] 0)),
    b41,
    b42,
    b43,
    (5857, (L 20 y0)),
    (6473, (L 20 y1)),
    (7173, (L 20 y2)),
    (104, (L 8 y53)),
    b4,
    b5,
    (435, (B 13 316912650135562894202732896513)),
    (582, (B 16 2658455993899308755378002830995489024)),
    (735, (B 16 3987683989750119525917084813969416449)),
    (1329, (B 13 316912650136765236195207766274)),
    b0,
    b1,
    (2026, (B 16 3987683989731756852014800065179771138)),
    (2642, (B 13 316912650142391776956515442947)),
    b2,
    b3,
    (3339, (B 16 3987683989632802078961797899715961091)),
    (3436, (B 16 3987683989545847660814512321527374083)),
    (4025, (B 13 316912650139318993637393654273)),
    b6,
    b7,
    (4722, (B 16 3987683989755313683660252679566877185)),
    b45,
    b44,
    (7340, (L 1 [i 3])),
    (7341, (L 1 [i 2])),
    (7342, (L 1 [i 140])),
    (7898, (L 39 y8)),
    (7343, (L 1 [P 7338])),
    (7345, (.loop 6573 .busy none 5 (v [(0, P 7338), (2, P 7340), (3, P 7341), (4, P 7342), (5, o), (9, P 7338), (10, P 5085), (11, f), (12, P 7338), (13, (.fn (.func 44) [] [P 7343]))]) [(q 14)] (zz 5 [1, 1, 0, 1, 1, 0]) (zz 5 [1, 1, 0, 1, 1, 1]) (q 7344))),
    (7344, (.dfr 6572)),
    (7386, (L 2 [o, s 1 98])),
    (7874, (L 3 [o, s 1 98, i 1])),
    (7896, (L 11 y48)),
    (7893, (L 3 [o, s 1 97, i 3])),
    (7895, (L 20 y2)),
    (7897, (L 20 y2)),
    (7347, (.cells 0 (.lst 4 [o, s 1 97, o, s 1 98]) 0 0 1 1 false false)),
    (7456, (.cells 0 (.lst 12 [o, s 1 97, i 1, o, s 1 97, i 2, o, s 1 97, i 3, o, s 1 98, i 1]) 0 0 3 3 false false)),
    (7722, (L 11 [o, s 1 97, i 3, S 7719 0 0 1 1 3, i 3, N, o, s 1 97, i 3, o, S 7721 0 0 1 1 20])),
    (7719, (L 3 [o, s 1 97, i 2])),
    (7721, (L 20 y1)),
    (4755, (L 4 [o, o, o, o])),
    (7339, (L 1 [P 7338])),
    (151, (L 2 [P 138, o])),
    (138, (L 8 y10)),
    (128, (L 2 [t, m 127])),
    b30,
    (1968, (L 3 [o, s 1 97, i 1])),
    (3281, (L 3 [o, s 1 97, i 2])),
    (4664, (L 3 [o, s 1 97, i 3])),
    (4585, (L 5 [t, m 4595, m 4596, m 4597, m 4598])),
    b31,
    (1929, (L 9 y3)),
    (3242, (L 9 y4)),
    (4625, (L 9 y5)),
    b32,
    (4597, (.map 0 [] 0)),
    b33,
    b34,
    b35,
    (1888, (L 20 y0)),
    (3201, (L 20 y1)),
    (4584, (L 20 y2)),
    b36,
    b37,
    (154, (L 2 [o, s 1 97])),
    (155, (L 2 [o, s 1 98])),
    (2060, (L 7 [o, s 1 97, i 3, i 1, i 1, i 1, o])),
    (755, (L 6 [N, i 1, s 1 99, i 1, i 1, e])),
    (2059, (L 6 [N, i 1, s 1 99, i 1, i 2, e])),
    (3372, (L 3 [o, s 1 97, i 3])),
    (3441, (L 6 [N, i 1, s 1 99, i 1, i 3, e])),
    (1, (L 8 [i 100, o, N, N, N, N, o, N])),
    (18, (L 4 [o, o, o, o])),
    (25, (L 7 [o, e, o, o, o, o, o])),
    (32, (L 7 [o, e, o, o, o, o, o])),
    (38, (L 8 y9)),
    (40, (B 3 66051)),
    (36, (B 3 66051)),
    (102, (L 4 [o, o, o, o])),
    (34, (.cells 0 (.byt 3 66051) 0 0 0 0 false false))]

open ckS in
/-- A state on the way. -/
noncomputable def ck20 : Ck where
  cur := ⟨51, (v [(0, P 5085), (2, M), (3, P 5085), (4, t), (5, f), (6, P 5085), (7, P 5085), (8, P 5085), (9, P 5085), (10, P 5075), (11, P 8405)]), [.ops (oAt (zz 51 [1, 1, 0]) 6), .code .ret], [], .run, false, none⟩
  callers := [⟨21, (v [(0, P 7338), (2, M), (3, P 7338), (4, t), (5, f), (6, P 7338), (7, P 7338), (8, P 7338), (9, P 5085)]), [.ops (oAt (zz 21 [1, 1, 0]) 4), .code .ret], [], .run, false, none⟩, ⟨47, (v [(0, P 7338), (2, N), (3, S 8402 1 0 2 2 3), (5, P 8403), (8, P 7338), (9, S 8397 1 0 2 2 5), (10, i 2), (11, i 2), (12, f), (13, p 8397 1 5), (14, (a [o, s 1 98, o, s 1 98, i 1])), (15, S 8402 0 0 1 1 3), (16, p 8403 0 2), (17, (a [o, s 1 98, i 1])), (18, (.sl (q 8404) 0 0 1 1 true 3)), (19, S 8402 1 0 2 2 3), (20, i 2), (22, P 7338)]), [.ops (oAt (zz 47 [1, 1, 1, 0]) 1), .code (zz 47 [1, 1, 1, 1])], [], .run, false, none⟩, ⟨44, (v [(0, (.yield (q 8303))), (1, P 8301), (3, P 5085), (5, P 8350), (14, P 7338), (15, P 5085), (16, P 5085), (17, S 8305 1 0 2 2 2), (18, i 2), (19, i 2), (20, f), (21, p 8305 1 2), (22, (a [o, s 1 98])), (23, (.yield (q 8303))), (24, (a [o, s 1 98])), (25, P 5085), (26, (a [o, s 1 98])), (27, i 1), (28, (a y47)), (29, t), (30, f), (31, i 2), (32, P 7338)]), [.ops (oAt (zz 44 [1, 1, 0, 0]) 1), .code (zz 44 [1, 1, 0, 1]), .code (zz 44 [1, 1, 1])], [], .run, false, none⟩, ⟨6, (v [(0, P 104), (1, o), (4, M), (5, P 4755), (6, o), (7, P 7339), (8, o), (9, i 4), (10, i 3), (11, i 221), (12, o), (13, o), (14, S 8158 0 0 295 295 1), (15, o), (16, P 8159), (17, i 10000), (18, N), (19, o), (20, i 16), (21, P 8160), (25, i 4), (26, P 8300), (31, (.tup [P 7338, o])), (32, o), (33, P 104), (34, (.tup [P 7338, o])), (35, P 7338), (36, o), (37, o), (38, f), (41, (.tup [i 4, i 3, i 221, o])), (42, P 7338), (43, (.tup [i 4, i 3, i 221, o])), (44, i 4), (45, i 3), (46, i 221), (47, o), (48, P 104), (49, o), (50, (.tup [S 8158 0 0 295 295 1, o])), (51, P 104), (52, o), (53, (.tup [S 8158 0 0 295 295 1, o])), (54, S 8158 0 0 295 295 1), (55, o), (56, o), (57, i 1), (58, P 104), (59, i 1), (60, i 10000), (61, (.tup [N, o])), (62, P 104), (63, i 1), (64, (.tup [N, o])), (65, N), (66, o), (67, i 221), (68, i 10000), (69, N), (70, o), (71, i 10000), (72, f), (74, P 104), (75, i 16), (76, P 7338), (77, P 8161), (78, (.fn (.func 57) [] [P 8167])), (92, P 7338), (93, P 8290), (94, i 4), (95, P 104), (96, i 1), (97, o), (98, P 104), (99, (.fn (.func 26) [P 104] [])), (100, P 7338), (101, (.fn (.func 44) [] [P 8301]))]), [.inRange (q 8303), .inBlock 2, .code (zz 6 [1, 1, 1, 1, 1, 1, 1, 1, 1, 1, 1, 1, 1, 1, 1, 1, 1])], [.mark (q 8302), .mark (q 8173)], .run, false, none⟩, f5, f0]
  next := (q 8411)
  ser := 7492
  bs := w [(5085, (L 8 y40)),
    (5075, (L 2 [t, m 5074])),
    b38,
    (5321, (L 0 [])),
    (5937, (L 3 [o, s 1 97, i 1])),
    (6553, (L 3 [o, s 1 97, i 2])),
    (7253, (L 3 [o, s 1 97, i 3])),
    (7174, (L 5 [t, m 7184, m 7185, m 7186, m 7187])),
    b39,
    (5898, (L 9 y3)),
    (6514, (L 9 y4)),
    (7214, (L 9 y5)),
    b40,
    (7186, (.map 0 [] 0)),
    b41,
    b42,
    b43,
    (5857, (L 20 y0)),
    (6473, (L 20 y1)),
    (7173, (L 20 y2)),
    (104, (L 8 [i 10000, o, S 439 15 0 295 295 1, S 8348 1 0 26 26 1, N, N, o, S 441 18 0 19 19 3])),
    b4,
    (8348, (.cells 1 (.byt 26 6427752178766748895403602308369441700242605863416347020583425) 0 13 1 0 false false)),
    (441, (.cells 0 (.lst 57 [i 1, o, S 435 0 0 13 13 1, i 1, o, S 582 0 0 16 16 1, i 1, o, S 735 0 0 16 16 1, i 1, o, S 1329 0 0 13 13 1, i 1, o, S 1716 0 0 24 24 1, i 1, o, S 1722 0 0 25 25 1, i 1, o, S 2026 0 0 16 16 1, i 1, o, S 2642 0 0 13 13 1, i 1, o, S 3029 0 0 24 24 1, i 1, o, S 3035 0 0 25 25 1, i 1, o, S 3339 0 0 16 16 1, i 1, o, S 3436 0 0 16 16 1, i 1, o, S 4025 0 0 13 13 1, i 1, o, S 4412 0 0 24 24 1, i 1, o, S 4418 0 0 25 25 1, i 1, o, S 4722 0 0 16 16 1, i 2, i 1, N, i 1, i 1, S 8344 0 0 13 13 1, i 1, i 1, S 8388 0 0 13 13 1]) 0 3 18 0 false false)),
    (435, (B 13 316912650135562894202732896513)),
    (582, (B 16 2658455993899308755378002830995489024)),
    (735, (B 16 3987683989750119525917084813969416449)),
    (1329, (B 13 316912650136765236195207766274)),
    b0,
    b1,
    (2026, (B 16 3987683989731756852014800065179771138)),
    (2642, (B 13 316912650142391776956515442947)),
    b2,
    b3,
    (3339, (B 16 3987683989632802078961797899715961091)),
    (3436, (B 16 3987683989545847660814512321527374083)),
    (4025, (B 13 316912650139318993637393654273)),
    b6,
    b7,
    (4722, (B 16 3987683989755313683660252679566877185)),
    (8344, (B 13 316912650142391776956515442947)),
    (8388, (B 13 316912650139318993637393654273)),
    b45,
    b44,
    (8405, (L 2 [t, m 8410])),
    (8410, (.map 0 [((a [o, s 1 97, i 1]), (a [o, s 1 97, i 1, (.sl (q 8406) 0 0 0 0 true 3), i 1, N]), 0), ((a [o, s 1 97, i 2]), (a [o, s 1 97, i 2, S 8407 0 0 1 1 3, i 2, N]), 1), ((a [o, s 1 97, i 3]), (a [o, s 1 97, i 3, S 8408 0 0 1 1 3, i 3, N]), 2), ((a [o, s 1 98, i 1]), (a [o, s 1 98, i 1, S 8409 0 0 1 1 3, i 4, N]), 3)] 4)),
    (8406, (L 0 [])),
    (8407, (L 3 [o, s 1 97, i 1])),
    (8408, (L 3 [o, s 1 97, i 2])),
    (8409, (L 3 [o, s 1 97, i 3])),
    (7338, (L 2 [P 5085, o])),
    (8402, (.cells 0 (.lst 6 [o, s 1 97, i 3, o, s 1 98, i 1]) 0 3 1 0 false false)),
    (8403, (L 5 [o, s 1 98, o, s 1 98, i 1])),
    (8397, (.cells 0 (.lst 10 [o, s 1 97, o, s 1 97, i 3, o, s 1 98, o, s 1 98, i 1]) 0 5 1 0 false false)),
    (8404, (L 3 [o, s 1 98, i 1])),
    (8303, (.loop 7400 .ready none 6 (v [(0, P 104), (1, o), (4, M), (5, P 4755), (6, o), (7, P 7339), (8, o), (9, i 4), (10, i 3), (11, i 221), (12, o), (13, o), (14, S 8158 0 0 295 295 1), (15, o), (16, P 8159), (17, i 10000), (18, N), (19, o), (20, i 16), (21, P 8160), (25, i 4), (26, P 8300), (31, (.tup [P 7338, o])), (32, o), (33, P 104), (34, (.tup [P 7338, o])), (35, P 7338), (36, o), (37, o), (38, f), (41, (.tup [i 4, i 3, i 221, o])), (42, P 7338), (43, (.tup [i 4, i 3, i 221, o])), (44, i 4), (45, i 3), (46, i 221), (47, o), (48, P 104), (49, o), (50, (.tup [S 8158 0 0 295 295 1, o])), (51, P 104), (52, o), (53, (.tup [S 8158 0 0 295 295 1, o])), (54, S 8158 0 0 295 295 1), (55, o), (56, o), (57, i 1), (58, P 104), (59, i 1), (60, i 10000), (61, (.tup [N, o])), (62, P 104), (63, i 1), (64, (.tup [N, o])), (65, N), (66, o), (67, i 221), (68, i 10000), (69, N), (70, o), (71, i 10000), (72, f), (74, P 104), (75, i 16), (76, P 7338), (77, P 8161), (78, (.fn (.func 57) [] [P 8167])), (92, P 7338), (93, P 8290), (94, i 4), (95, P 104), (96, i 1), (97, o), (98, P 104), (99, (.fn (.func 26) [P 104] [])), (100, P 7338), (101, (.fn (.func 44) [] [P 8301]))]) [(q 102)] (zz 6 [1, 1, 1, 1, 1, 1, 1, 1, 1, 1, 1, 1, 1, 1, 1, 1, 0, 1, 1, 0]) (zz 6 [1, 1, 1, 1, 1, 1, 1, 1, 1, 1, 1, 1, 1, 1, 1, 1, 0, 1, 1, 1]) (q 8302))),
    (4755, (L 4 [o, o, o, o])),
    (7339, (L 1 [P 7338])),
    b46,
    (8159, (L 1 [i 1])),
    (8160, (L 1 [i 3])),
    (8300, (L 1 [(.fn (.func 26) [P 104] [])])),
    (8161, (L 2 [t, m 8166])),
    b47,
    (8162, (L 0 [])),
    (8163, (L 3 [o, s 1 97, i 1])),
    (8164, (L 3 [o, s 1 97, i 2])),
    (8165, (L 3 [o, s 1 97, i 3])),
    (8167, (L 1 [S 8168 3 0 4 4 6])),
    b48,
    (8169, (L 0 [])),
    (8170, (L 3 [o, s 1 97, i 1])),
    (8171, (L 3 [o, s 1 97, i 2])),
    (8172, (L 3 [o, s 1 97, i 3])),
    (8290, (L 2 [t, m 8295])),
    b49,
    (8291, (L 0 [])),
    (8292, (L 3 [o, s 1 97, i 1])),
    (8293, (L 3 [o, s 1 97, i 2])),
    (8294, (L 3 [o, s 1 97, i 3])),
    (8301, (L 1 [P 7338])),
    (8302, (.dfr 7399)),
    (8350, (L 2 [o, s 1 98])),
    (8305, (.cells 0 (.lst 4 [o, s 1 97, o, s 1 98]) 0 0 1 1 false false)),
    (8173, (.dfr 7289)),
    (151, (L 2 [P 138, o])),
    (138, (L 8 y10)),
    (128, (L 2 [t, m 127])),
    b30,
    (1968, (L 3 [o, s 1 97, i 1])),
    (3281, (L 3 [o, s 1 97, i 2])),
    (4664, (L 3 [o, s 1 97, i 3])),
    (4585, (L 5 [t, m 4595, m 4596, m 4597, m 4598])),
    b31,
    (1929, (L 9 y3)),
    (3242, (L 9 y4)),
    (4625, (L 9 y5)),
    b32,
    (4597, (.map 0 [] 0)),
    b33,
    b34,
    b35,
    (1888, (L 20 y0)),
    (3201, (L 20 y1)),
    (4584, (L 20 y2)),
    b36,
    b37,
    (154, (L 2 [o, s 1 97])),
    (155, (L 2 [o, s 1 98])),
    (2060, (L 7 [o, s 1 97, i 3, i 1, i 1, i 1, o])),
    (755, (L 6 [N, i 1, s 1 99, i 1, i 1, e])),
    (2059, (L 6 [N, i 1, s 1 99, i 1, i 2, e])),
    (3372, (L 3 [o, s 1 97, i 3])),
    (3441, (L 6 [N, i 1, s 1 99, i 1, i 3, e])),
    (1, (L 8 [i 100, o, N, N, N, N, o, N])),
    (18, (L 4 [o, o, o, o])),
    (25, (L 7 [o, e, o, o, o, o, o])),
    (32, (L 7 [o, e, o, o, o, o, o])),
    (38, (L 8 y9)),
    (40, (B 3 66051)),
    (36, (B 3 66051)),
    (102, (L 4 [o, o, o, o])),
    (34, (.cells 0 (.byt 3 66051) 0 0 0 0 false false))]

open ckS in
/-- A state on the way. -/
noncomputable def ck24 : Ck where
  cur := ⟨89, (v [(0, P 104), (1, i 29), (3, P 9175), (4, M), (5, o), (6, P 9176), (7, o), (10, f), (11, P 104), (12, t), (13, f), (14, f), (15, i 29), (16, f), (17, f), (18, i 29), (19, P 104), (20, P 104), (21, p 104 0 7), (22, S 441 28 0 29 29 3), (23, i 29), (24, f), (25, f), (26, (.tup [P 9178, o])), (27, P 104), (28, P 104), (29, P 104), (30, i 10000), (31, P 104), (32, P 104), (33, p 104 0 6), (34, o), (35, P 104), (36, P 104), (37, p 104 0 4), (38, p 104 0 4), (39, N), (40, P 104), (41, P 104), (42, p 104 0 4), (43, p 104 0 5), (44, N), (45, (.tup [P 9178, o])), (46, P 9178), (47, o)]), [.code (zz 89 [1, 1, 1])], [], .run, false, none⟩
  callers := [⟨48, (v [(0, P 104), (2, M), (6, P 104), (7, P 104), (8, i 29)]), [.ops (oAt (zz 48 [1, 0]) 3), .code (zz 48 [1, 1])], [], .run, false, none⟩, f6, f7, f5, f0]
  next := (q 9179)
  ser := 8162
  bs := w [(104, (L 8 y60)),
    b4,
    b50,
    b51,
    (435, (B 13 316912650135562894202732896513)),
    (582, (B 16 2658455993899308755378002830995489024)),
    (735, (B 16 3987683989750119525917084813969416449)),
    (1329, (B 13 316912650136765236195207766274)),
    b0,
    b1,
    (2026, (B 16 3987683989731756852014800065179771138)),
    (2642, (B 13 316912650142391776956515442947)),
    b2,
    b3,
    (3339, (B 16 3987683989632802078961797899715961091)),
    (3436, (B 16 3987683989545847660814512321527374083)),
    (4025, (B 13 316912650139318993637393654273)),
    b6,
    b7,
    (4722, (B 16 3987683989755313683660252679566877185)),
    (8344, (B 13 316912650142391776956515442947)),
    (8388, (B 13 316912650139318993637393654273)),
    (8495, (B 16 2658455993899308755378002830995489024)),
    b52,
    b53,
    b54,
    b55,
    b56,
    b57,
    (9110, (B 16 3987683989632802078961797899715961091)),
    (9166, (B 16 3987683989755313683660252679566877185)),
    (9175, (L 1 [i 29])),
    (9176, (L 1 [P 9178])),
    (9178, (L 8 [i 10000, o, N, N, N, N, o, N])),
    (4755, (L 4 [o, o, o, o])),
    (7339, (L 1 [P 7338])),
    (7338, (L 2 [P 5085, o])),
    (5085, (L 8 y40)),
    (5075, (L 2 [t, m 5074])),
    b38,
    (5321, (L 0 [])),
    (5937, (L 3 [o, s 1 97, i 1])),
    (6553, (L 3 [o, s 1 97, i 2])),
    (7253, (L 3 [o, s 1 97, i 3])),
    (7174, (L 5 [t, m 7184, m 7185, m 7186, m 7187])),
    b39,
    (5898, (L 9 y3)),
    (6514, (L 9 y4)),
    (7214, (L 9 y5)),
    b40,
    (7186, (.map 0 [] 0)),
    b41,
    b42,
    b43,
    (5857, (L 20 y0)),
    (6473, (L 20 y1)),
    (7173, (L 20 y2)),
    b45,
    b44,
    b46,
    (8159, (L 1 [i 1])),
    (8160, (L 1 [i 3])),
    (8300, (L 1 [(.fn (.func 26) [P 104] [])])),
    (8161, (L 2 [t, m 8166])),
    b47,
    (8162, (L 0 [])),
    (8163, (L 3 [o, s 1 97, i 1])),
    (8164, (L 3 [o, s 1 97, i 2])),
    (8165, (L 3 [o, s 1 97, i 3])),
    (8167, (L 1 [S 8168 3 0 4 4 6])),
    b48,
    (8169, (L 0 [])),
    (8170, (L 3 [o, s 1 97, i 1])),
    (8171, (L 3 [o, s 1 97, i 2])),
    (8172, (L 3 [o, s 1 97, i 3])),
    (8290, (L 2 [t, m 8295])),
    b49,
    (8291, (L 0 [])),
    (8292, (L 3 [o, s 1 97, i 1])),
    (8293, (L 3 [o, s 1 97, i 2])),
    (8294, (L 3 [o, s 1 97, i 3])),
    (8301, (L 1 [P 7338])),
    (8302, (.dfr 7399)),
    (8173, (.dfr 7289)),
    (151, (L 2 [P 138, o])),
    (138, (L 8 y10)),
    (128, (L 2 [t, m 127])),
    b30,
    (1968, (L 3 [o, s 1 97, i 1])),
    (3281, (L 3 [o, s 1 97, i 2])),
    (4664, (L 3 [o, s 1 97, i 3])),
    (4585, (L 5 [t, m 4595, m 4596, m 4597, m 4598])),
    b31,
    (1929, (L 9 y3)),
    (3242, (L 9 y4)),
    (4625, (L 9 y5)),
    b32,
    (4597, (.map 0 [] 0)),
    b33,
    b34,
    b35,
    (1888, (L 20 y0)),
    (3201, (L 20 y1)),
    (4584, (L 20 y2)),
    b36,
    b37,
    (154, (L 2 [o, s 1 97])),
    (155, (L 2 [o, s 1 98])),
    (2060, (L 7 [o, s 1 97, i 3, i 1, i 1, i 1, o])),
    (755, (L 6 [N, i 1, s 1 99, i 1, i 1, e])),
    (2059, (L 6 [N, i 1, s 1 99, i 1, i 2, e])),
    (3372, (L 3 [o, s 1 97, i 3])),
    (3441, (L 6 [N, i 1, s 1 99, i 1, i 3, e])),
    (1, (L 8 [i 100, o, N, N, N, N, o, N])),
    (18, (L 4 [o, o, o, o])),
    (25, (L 7 [o, e, o, o, o, o, o])),
    (32, (L 7 [o, e, o, o, o, o, o])),
    (38, (L 8 y9)),
    (40, (B 3 66051)),
    (36, (B 3 66051)),
    (102, (L 4 [o, o, o, o])),
    (34, (.cells 0 (.byt 3 66051) 0 0 0 0 false false))]

open ckS in
/-- A state on the way. -/
noncomputable def ck27 : Ck where
  cur := ⟨49, (v [(0, P 104), (2, M), (3, o), (4, P 9733), (5, S 9735 0 0 221 221 1), (6, o), (7, P 9736), (8, i 66), (9, P 10127), (10, P 10256), (11, o), (12, P 104), (13, P 9451), (14, f), (15, P 9722), (16, P 9727), (17, m 9728), (18, m 9729), (19, (a [P 9722, P 9727, m 9728, m 9729])), (20, P 104), (21, m 9730), (22, m 9731), (23, (a y41)), (24, P 9732), (25, (.tup [S 9735 0 0 221 221 1, o])), (26, P 104), (27, P 104), (28, i 1), (29, (.tup [S 9735 0 0 221 221 1, o])), (30, S 9735 0 0 221 221 1), (31, o), (32, S 9735 0 0 221 221 1), (33, (.fn (.func 157) [] [P 9739])), (34, i 66), (35, (a [i 2, S 10124 0 0 16 16 1])), (36, (.tup [(a y19), o])), (37, (a [i 2, S 10124 0 0 16 16 1])), (38, (.tup [(a y19), o])), (39, (a y19)), (40, o), (41, o), (42, f), (43, f), (44, m 10257), (45, P 10256), (46, i 2), (47, (.fn (.func 174) [] [])), (48, P 9732), (49, (a y19)), (50, t), (51, f), (52, f)]), [.code (zz 49 [1, 1, 1, 1, 1, 1, 1, 0, 1, 1, 1, 1, 1, 0, 1]), .code (zz 49 [1, 1, 1, 1, 1, 1, 1, 0, 1, 1, 1, 1, 1, 1]), .inBlock 1], [], .run, false, (some (q 9741))⟩
  callers := [⟨157, (v [(0, (.yield (q 9741))), (1, P 9739), (2, P 9742), (3, P 9743), (4, i 66), (5, P 10126), (6, S 9738 0 0 221 221 1), (7, (.fn (.func 232) [] [P 9744, P 9745])), (8, i 66), (9, (a [i 2, S 10124 0 0 16 16 1])), (10, (.yield (q 9741))), (11, i 66), (12, (a [i 2, S 10124 0 0 16 16 1]))]), [.ops (oAt (zz 157 [1, 1, 1, 1, 1, 1, 0]) 3), .code (zz 157 [1, 1, 1, 1, 1, 1, 1]), .inBlock 1], [], .run, false, (some (q 9747))⟩, ⟨232, (v [(0, (.yield (q 9747))), (1, P 9744), (2, P 9745), (4, i 66), (5, P 10125), (6, i 25), (7, o), (8, i 66), (9, S 9738 0 0 221 221 1), (10, i 221), (11, t), (12, (.tup [(a [i 2, S 10124 0 0 16 16 1]), i 25, o])), (13, S 9738 0 0 221 221 1), (14, i 66), (15, S 9738 0 66 155 155 1), (16, (.tup [(a [i 2, S 10124 0 0 16 16 1]), i 25, o])), (17, (a [i 2, S 10124 0 0 16 16 1])), (18, i 25), (19, o), (20, o), (21, f), (25, (.yield (q 9747))), (26, i 66), (27, (a [i 2, S 10124 0 0 16 16 1])), (28, t), (29, f), (30, i 42), (31, i 24), (32, i 66)]), [.ops (oAt (zz 232 [1, 1, 1, 1, 1, 1, 1, 1, 1, 0, 0]) 3), .code (zz 232 [1, 1, 1, 1, 1, 1, 1, 1, 1, 0, 1]), .code (zz 232 [1, 1, 1, 1, 1, 1, 1, 1, 1, 1]), .inBlock 1, .inLoop (zz 232 [1, 1, 1, 1, 1]), .inBlock 0, .inScope (zz 232 [1])], [], .run, false, none⟩, f8, f9, f10, f7, f5, f0]
  next := (q 10501)
  ser := 9346
  bs := w [(104, (L 8 y60)),
    b4,
    b50,
    b51,
    (435, (B 13 316912650135562894202732896513)),
    (582, (B 16 2658455993899308755378002830995489024)),
    (735, (B 16 3987683989750119525917084813969416449)),
    (1329, (B 13 316912650136765236195207766274)),
    b0,
    b1,
    (2026, (B 16 3987683989731756852014800065179771138)),
    (2642, (B 13 316912650142391776956515442947)),
    b2,
    b3,
    (3339, (B 16 3987683989632802078961797899715961091)),
    (3436, (B 16 3987683989545847660814512321527374083)),
    (4025, (B 13 316912650139318993637393654273)),
    b6,
    b7,
    (4722, (B 16 3987683989755313683660252679566877185)),
    (8344, (B 13 316912650142391776956515442947)),
    (8388, (B 13 316912650139318993637393654273)),
    (8495, (B 16 2658455993899308755378002830995489024)),
    b52,
    b53,
    b54,
    b55,
    b56,
    b57,
    (9110, (B 16 3987683989632802078961797899715961091)),
    (9166, (B 16 3987683989755313683660252679566877185)),
    (9733, (L 1 [P 9732])),
    (9732, (L 8 [P 9722, P 10421, m 9728, m 9729, P 104, m 9730, m 9731, N])),
    (9722, (L 2 [t, m 9721])),
    (9721, (.map 0 [((a [o, s 1 97, i 1]), (a y15), 0), ((a [o, s 1 97, i 2]), (a y26), 1)] 2)),
    (10022, (L 0 [])),
    (10500, (L 3 [o, s 1 97, i 1])),
    (10421, (L 5 [t, m 10431, m 10432, m 10433, m 10434])),
    (10431, (.map 0 [((.ifc 143 (P 10461)), (a [o, s 1 97, i 2, o]), 0)] 1)),
    (10461, (L 9 y3)),
    (10432, (.map 0 [((a [o, s 1 97, i 2, o]), P 10461, 0)] 1)),
    (10433, (.map 0 [] 0)),
    (10434, (.map 0 [((a [o, s 1 97, i 2]), t, 0)] 1)),
    (9728, (.map 0 [((a [o, s 1 97, i 1]), (a [o, e, o, o]), 0), ((a [o, s 1 97, i 2]), (a [o, s 1 97, i 2, o]), 1)] 2)),
    (9729, (.map 0 [((a [o, s 1 97, i 1]), N, 0), ((a [o, s 1 97, i 2]), S 10420 0 0 1 1 20, 1)] 2)),
    (10420, (L 20 y0)),
    (9730, (.map 0 [] 0)),
    b58,
    b59,
    (9736, (L 1 [i 66])),
    (10127, (L 2 [i 2, S 10124 0 0 16 16 1])),
    (10124, (B 16 7159849355905589782953298514477568)),
    (10256, (L 39 y19)),
    (10167, (L 3 [o, s 1 97, i 1])),
    b60,
    b61,
    b62,
    b63,
    (9464, (B 13 316912650135562894202732896513)),
    (9475, (B 16 2658455993899308755378002830995489024)),
    (9484, (B 16 3987683989750119525917084813969416449)),
    (9493, (B 13 316912650136765236195207766274)),
    b64,
    b65,
    (9520, (B 16 3987683989731756852014800065179771138)),
    (9529, (B 13 316912650142391776956515442947)),
    b66,
    b67,
    (9556, (B 16 3987683989632802078961797899715961091)),
    (9565, (B 16 3987683989545847660814512321527374083)),
    (9574, (B 13 316912650139318993637393654273)),
    b68,
    b69,
    (9601, (B 16 3987683989755313683660252679566877185)),
    (9617, (B 13 316912650142391776956515442947)),
    (9627, (B 13 316912650139318993637393654273)),
    (9636, (B 16 2658455993899308755378002830995489024)),
    b70,
    b71,
    b72,
    b73,
    b74,
    b75,
    (9699, (B 16 3987683989632802078961797899715961091)),
    (9708, (B 16 3987683989755313683660252679566877185)),
    (9727, (L 5 [t, m 9723, m 9724, m 9725, m 9726])),
    (9723, (.map 0 [] 0)),
    (9724, (.map 0 [] 0)),
    (9725, (.map 0 [] 0)),
    (9726, (.map 0 [] 0)),
    (9739, (L 1 [S 9738 0 0 221 221 1])),
    b76,
    (10257, (.map 0 [((i 1), (.fn (.func 173) [] []), 0), ((i 2), (.fn (.func 174) [] []), 1), ((i 3), (.fn (.func 175) [] []), 2), ((i 4), (.fn (.func 176) [] []), 3), ((i 5), (.fn (.func 177) [] []), 4)] 5)),
    b77,
    (9740, (.dfr 8663)),
    (9742, (L 1 [(.yield (q 9741))])),
    (9743, (L 1 [o])),
    (10126, (L 2 [i 2, S 10124 0 0 16 16 1])),
    (9744, (L 1 [S 9738 0 0 221 221 1])),
    (9745, (L 1 [P 9743])),
    b78,
    (9746, (.dfr 8669)),
    (10125, (L 2 [i 2, S 10124 0 0 16 16 1])),
    b79,
    b80,
    b81,
    b82,
    (9191, (B 13 316912650135562894202732896513)),
    (9202, (B 16 2658455993899308755378002830995489024)),
    (9211, (B 16 3987683989750119525917084813969416449)),
    (9220, (B 13 316912650136765236195207766274)),
    b83,
    b84,
    (9247, (B 16 3987683989731756852014800065179771138)),
    (9256, (B 13 316912650142391776956515442947)),
    b85,
    b86,
    (9283, (B 16 3987683989632802078961797899715961091)),
    (9292, (B 16 3987683989545847660814512321527374083)),
    (9301, (B 13 316912650139318993637393654273)),
    b87,
    b88,
    (9328, (B 16 3987683989755313683660252679566877185)),
    (9344, (B 13 316912650142391776956515442947)),
    (9354, (B 13 316912650139318993637393654273)),
    (9363, (B 16 2658455993899308755378002830995489024)),
    b89,
    b90,
    b91,
    b92,
    b93,
    b94,
    (9426, (B 16 3987683989632802078961797899715961091)),
    (9435, (B 16 3987683989755313683660252679566877185)),
    (4755, (L 4 [o, o, o, o])),
    (7339, (L 1 [P 7338])),
    (7338, (L 2 [P 5085, o])),
    (5085, (L 8 y40)),
    (5075, (L 2 [t, m 5074])),
    b38,
    (5321, (L 0 [])),
    (5937, (L 3 [o, s 1 97, i 1])),
    (6553, (L 3 [o, s 1 97, i 2])),
    (7253, (L 3 [o, s 1 97, i 3])),
    (7174, (L 5 [t, m 7184, m 7185, m 7186, m 7187])),
    b39,
    (5898, (L 9 y3)),
    (6514, (L 9 y4)),
    (7214, (L 9 y5)),
    b40,
    (7186, (.map 0 [] 0)),
    b41,
    b42,
    b43,
    (5857, (L 20 y0)),
    (6473, (L 20 y1)),
    (7173, (L 20 y2)),
    b45,
    b44,
    b46,
    (8159, (L 1 [i 1])),
    (8160, (L 1 [i 3])),
    (8300, (L 1 [(.fn (.func 26) [P 104] [])])),
    (8161, (L 2 [t, m 8166])),
    b47,
    (8162, (L 0 [])),
    (8163, (L 3 [o, s 1 97, i 1])),
    (8164, (L 3 [o, s 1 97, i 2])),
    (8165, (L 3 [o, s 1 97, i 3])),
    (8167, (L 1 [S 8168 3 0 4 4 6])),
    b48,
    (8169, (L 0 [])),
    (8170, (L 3 [o, s 1 97, i 1])),
    (8171, (L 3 [o, s 1 97, i 2])),
    (8172, (L 3 [o, s 1 97, i 3])),
    (8290, (L 2 [t, m 8295])),
    b49,
    (8291, (L 0 [])),
    (8292, (L 3 [o, s 1 97, i 1])),
    (8293, (L 3 [o, s 1 97, i 2])),
    (8294, (L 3 [o, s 1 97, i 3])),
    (8301, (L 1 [P 7338])),
    (8302, (.dfr 7399)),
    (8173, (.dfr 7289)),
    (151, (L 2 [P 138, o])),
    (138, (L 8 y10)),
    (128, (L 2 [t, m 127])),
    b30,
    (1968, (L 3 [o, s 1 97, i 1])),
    (3281, (L 3 [o, s 1 97, i 2])),
    (4664, (L 3 [o, s 1 97, i 3])),
    (4585, (L 5 [t, m 4595, m 4596, m 4597, m 4598])),
    b31,
    (1929, (L 9 y3)),
    (3242, (L 9 y4)),
    (4625, (L 9 y5)),
    b32,
    (4597, (.map 0 [] 0)),
    b33,
    b34,
    b35,
    (1888, (L 20 y0)),
    (3201, (L 20 y1)),
    (4584, (L 20 y2)),
    b36,
    b37,
    (154, (L 2 [o, s 1 97])),
    (155, (L 2 [o, s 1 98])),
    (2060, (L 7 [o, s 1 97, i 3, i 1, i 1, i 1, o])),
    (755, (L 6 [N, i 1, s 1 99, i 1, i 1, e])),
    (2059, (L 6 [N, i 1, s 1 99, i 1, i 2, e])),
    (3372, (L 3 [o, s 1 97, i 3])),
    (3441, (L 6 [N, i 1, s 1 99, i 1, i 3, e])),
    (1, (L 8 [i 100, o, N, N, N, N, o, N])),
    (18, (L 4 [o, o, o, o])),
    (25, (L 7 [o, e, o, o, o, o, o])),
    (32, (L 7 [o, e, o, o, o, o, o])),
    (38, (L 8 y9)),
    (40, (B 3 66051)),
    (36, (B 3 66051)),
    (102, (L 4 [o, o, o, o])),
    (34, (.cells 0 (.byt 3 66051) 0 0 0 0 false false))]

open ckS in
/-- A state on the way. -/
noncomputable def ck31 : Ck where
  cur := ⟨49, (v [(0, P 104), (2, M), (3, o), (4, P 9733), (5, S 9735 0 0 221 221 1), (6, o), (7, P 9736), (8, i 164), (9, P 11083), (10, P 11212), (11, o), (12, P 104), (13, P 9451), (14, f), (15, P 9722), (16, P 9727), (17, m 9728), (18, m 9729), (19, (a [P 9722, P 9727, m 9728, m 9729])), (20, P 104), (21, m 9730), (22, m 9731), (23, (a y41)), (24, P 9732), (25, (.tup [S 9735 0 0 221 221 1, o])), (26, P 104), (27, P 104), (28, i 1), (29, (.tup [S 9735 0 0 221 221 1, o])), (30, S 9735 0 0 221 221 1), (31, o), (32, S 9735 0 0 221 221 1), (33, (.fn (.func 157) [] [P 9739])), (34, i 164), (35, (a [i 2, S 11080 0 0 16 16 1])), (36, (.tup [(a y20), o])), (37, (a [i 2, S 11080 0 0 16 16 1])), (38, (.tup [(a y20), o])), (39, (a y20)), (40, o), (41, o), (42, f), (43, f), (44, m 11213), (45, P 11212), (46, i 2), (47, (.fn (.func 174) [] [])), (48, P 9732), (49, (a y20)), (50, t), (51, f), (52, f)]), [.code (zz 49 [1, 1, 1, 1, 1, 1, 1, 0, 1, 1, 1, 1, 1, 0, 1]), .code (zz 49 [1, 1, 1, 1, 1, 1, 1, 0, 1, 1, 1, 1, 1, 1]), .inBlock 1], [], .run, false, (some (q 9741))⟩
  callers := [⟨157, (v [(0, (.yield (q 9741))), (1, P 9739), (2, P 9742), (3, P 9743), (4, i 164), (5, P 11082), (6, S 9738 0 0 221 221 1), (7, (.fn (.func 232) [] [P 9744, P 9745])), (8, i 164), (9, (a [i 2, S 11080 0 0 16 16 1])), (10, (.yield (q 9741))), (11, i 164), (12, (a [i 2, S 11080 0 0 16 16 1]))]), [.ops (oAt (zz 157 [1, 1, 1, 1, 1, 1, 0]) 3), .code (zz 157 [1, 1, 1, 1, 1, 1, 1]), .inBlock 1], [], .run, false, (some (q 9747))⟩, ⟨232, (v [(0, (.yield (q 9747))), (1, P 9744), (2, P 9745), (4, i 164), (5, P 11081), (6, i 25), (7, o), (8, i 164), (9, S 9738 0 0 221 221 1), (10, i 221), (11, t), (12, (.tup [(a [i 2, S 11080 0 0 16 16 1]), i 25, o])), (13, S 9738 0 0 221 221 1), (14, i 164), (15, S 9738 0 164 57 57 1), (16, (.tup [(a [i 2, S 11080 0 0 16 16 1]), i 25, o])), (17, (a [i 2, S 11080 0 0 16 16 1])), (18, i 25), (19, o), (20, o), (21, f), (25, (.yield (q 9747))), (26, i 164), (27, (a [i 2, S 11080 0 0 16 16 1])), (28, t), (29, f), (30, i 140), (31, i 24), (32, i 164)]), [.ops (oAt (zz 232 [1, 1, 1, 1, 1, 1, 1, 1, 1, 0, 0]) 3), .code (zz 232 [1, 1, 1, 1, 1, 1, 1, 1, 1, 0, 1]), .code (zz 232 [1, 1, 1, 1, 1, 1, 1, 1, 1, 1]), .inBlock 1, .inLoop (zz 232 [1, 1, 1, 1, 1]), .inBlock 0, .inScope (zz 232 [1])], [], .run, false, none⟩, f8, f9, f10, f7, f5, f0]
  next := (q 11457)
  ser := 10200
  bs := w [(104, (L 8 y60)),
    b4,
    b50,
    b51,
    (435, (B 13 316912650135562894202732896513)),
    (582, (B 16 2658455993899308755378002830995489024)),
    (735, (B 16 3987683989750119525917084813969416449)),
    (1329, (B 13 316912650136765236195207766274)),
    b0,
    b1,
    (2026, (B 16 3987683989731756852014800065179771138)),
    (2642, (B 13 316912650142391776956515442947)),
    b2,
    b3,
    (3339, (B 16 3987683989632802078961797899715961091)),
    (3436, (B 16 3987683989545847660814512321527374083)),
    (4025, (B 13 316912650139318993637393654273)),
    b6,
    b7,
    (4722, (B 16 3987683989755313683660252679566877185)),
    (8344, (B 13 316912650142391776956515442947)),
    (8388, (B 13 316912650139318993637393654273)),
    (8495, (B 16 2658455993899308755378002830995489024)),
    b52,
    b53,
    b54,
    b55,
    b56,
    b57,
    (9110, (B 16 3987683989632802078961797899715961091)),
    (9166, (B 16 3987683989755313683660252679566877185)),
    (9733, (L 1 [P 9732])),
    (9732, (L 8 y16)),
    (9722, (L 2 [t, m 9721])),
    b95,
    (10022, (L 0 [])),
    (10500, (L 3 [o, s 1 97, i 1])),
    (10978, (L 3 [o, s 1 97, i 2])),
    (11456, (L 3 [o, s 1 97, i 3])),
    (11377, (L 5 y30)),
    b96,
    (10461, (L 9 y3)),
    (10939, (L 9 y4)),
    (11417, (L 9 y5)),
    b97,
    (11389, (.map 0 [] 0)),
    b98,
    b99,
    b100,
    (10420, (L 20 y0)),
    (10898, (L 20 y1)),
    (11376, (L 20 y2)),
    (9730, (.map 0 [] 0)),
    b58,
    b59,
    (9736, (L 1 [i 164])),
    (11083, (L 2 [i 2, S 11080 0 0 16 16 1])),
    (11080, (B 16 7180052537346727333717790251155712)),
    (11212, (L 39 y20)),
    (11123, (L 3 [o, s 1 97, i 3])),
    b60,
    b61,
    b62,
    b63,
    (9464, (B 13 316912650135562894202732896513)),
    (9475, (B 16 2658455993899308755378002830995489024)),
    (9484, (B 16 3987683989750119525917084813969416449)),
    (9493, (B 13 316912650136765236195207766274)),
    b64,
    b65,
    (9520, (B 16 3987683989731756852014800065179771138)),
    (9529, (B 13 316912650142391776956515442947)),
    b66,
    b67,
    (9556, (B 16 3987683989632802078961797899715961091)),
    (9565, (B 16 3987683989545847660814512321527374083)),
    (9574, (B 13 316912650139318993637393654273)),
    b68,
    b69,
    (9601, (B 16 3987683989755313683660252679566877185)),
    (9617, (B 13 316912650142391776956515442947)),
    (9627, (B 13 316912650139318993637393654273)),
    (9636, (B 16 2658455993899308755378002830995489024)),
    b70,
    b71,
    b72,
    b73,
    b74,
    b75,
    (9699, (B 16 3987683989632802078961797899715961091)),
    (9708, (B 16 3987683989755313683660252679566877185)),
    (9727, (L 5 [t, m 9723, m 9724, m 9725, m 9726])),
    (9723, (.map 0 [] 0)),
    (9724, (.map 0 [] 0)),
    (9725, (.map 0 [] 0)),
    (9726, (.map 0 [] 0)),
    (9739, (L 1 [S 9738 0 0 221 221 1])),
    b76,
    (11213, (.map 0 [((i 1), (.fn (.func 173) [] []), 0), ((i 2), (.fn (.func 174) [] []), 1), ((i 3), (.fn (.func 175) [] []), 2), ((i 4), (.fn (.func 176) [] []), 3), ((i 5), (.fn (.func 177) [] []), 4)] 5)),
    b77,
    (9740, (.dfr 8663)),
    (9742, (L 1 [(.yield (q 9741))])),
    (9743, (L 1 [o])),
    (11082, (L 2 [i 2, S 11080 0 0 16 16 1])),
    (9744, (L 1 [S 9738 0 0 221 221 1])),
    (9745, (L 1 [P 9743])),
    b78,
    (9746, (.dfr 8669)),
    (11081, (L 2 [i 2, S 11080 0 0 16 16 1])),
    b79,
    b80,
    b81,
    b82,
    (9191, (B 13 316912650135562894202732896513)),
    (9202, (B 16 2658455993899308755378002830995489024)),
    (9211, (B 16 3987683989750119525917084813969416449)),
    (9220, (B 13 316912650136765236195207766274)),
    b83,
    b84,
    (9247, (B 16 3987683989731756852014800065179771138)),
    (9256, (B 13 316912650142391776956515442947)),
    b85,
    b86,
    (9283, (B 16 3987683989632802078961797899715961091)),
    (9292, (B 16 3987683989545847660814512321527374083)),
    (9301, (B 13 316912650139318993637393654273)),
    b87,
    b88,
    (9328, (B 16 3987683989755313683660252679566877185)),
    (9344, (B 13 316912650142391776956515442947)),
    (9354, (B 13 316912650139318993637393654273)),
    (9363, (B 16 2658455993899308755378002830995489024)),
    b89,
    b90,
    b91,
    b92,
    b93,
    b94,
    (9426, (B 16 3987683989632802078961797899715961091)),
    (9435, (B 16 3987683989755313683660252679566877185)),
    (4755, (L 4 [o, o, o, o])),
    (7339, (L 1 [P 7338])),
    (7338, (L 2 [P 5085, o])),
    (5085, (L 8 y40)),
    (5075, (L 2 [t, m 5074])),
    b38,
    (5321, (L 0 [])),
    (5937, (L 3 [o, s 1 97, i 1])),
    (6553, (L 3 [o, s 1 97, i 2])),
    (7253, (L 3 [o, s 1 97, i 3])),
    (7174, (L 5 [t, m 7184, m 7185, m 7186, m 7187])),
    b39,
    (5898, (L 9 y3)),
    (6514, (L 9 y4)),
    (7214, (L 9 y5)),
    b40,
    (7186, (.map 0 [] 0)),
    b41,
    b42,
    b43,
    (5857, (L 20 y0)),
    (6473, (L 20 y1)),
    (7173, (L 20 y2)),
    b45,
    b44,
    b46,
    (8159, (L 1 [i 1])),
    (8160, (L 1 [i 3])),
    (8300, (L 1 [(.fn (.func 26) [P 104] [])])),
    (8161, (L 2 [t, m 8166])),
    b47,
    (8162, (L 0 [])),
    (8163, (L 3 [o, s 1 97, i 1])),
    (8164, (L 3 [o, s 1 97, i 2])),
    (8165, (L 3 [o, s 1 97, i 3])),
    (8167, (L 1 [S 8168 3 0 4 4 6])),
    b48,
    (8169, (L 0 [])),
    (8170, (L 3 [o, s 1 97, i 1])),
    (8171, (L 3 [o, s 1 97, i 2])),
    (8172, (L 3 [o, s 1 97, i 3])),
    (8290, (L 2 [t, m 8295])),
    b49,
    (8291, (L 0 [])),
    (8292, (L 3 [o, s 1 97, i 1])),
    (8293, (L 3 [o, s 1 97, i 2])),
    (8294, (L 3 [o, s 1 97, i 3])),
    (8301, (L 1 [P 7338])),
    (8302, (.dfr 7399)),
    (8173, (.dfr 7289)),
    (151, (L 2 [P 138, o])),
    (138, (L 8 y10)),
    (128, (L 2 [t, m 127])),
    b30,
    (1968, (L 3 [o, s 1 97, i 1])),
    (3281, (L 3 [o, s 1 97, i 2])),
    (4664, (L 3 [o, s 1 97, i 3])),
    (4585, (L 5 [t, m 4595, m 4596, m 4597, m 4598])),
    b31,
    (1929, (L 9 y3)),
    (3242, (L 9 y4)),
    (4625, (L 9 y5)),
    b32,
    (4597, (.map 0 [] 0)),
    b33,
    b34,
    b35,
    (1888, (L 20 y0)),
    (3201, (L 20 y1)),
    (4584, (L 20 y2)),
    b36,
    b37,
    (154, (L 2 [o, s 1 97])),
    (155, (L 2 [o, s 1 98])),
    (2060, (L 7 [o, s 1 97, i 3, i 1, i 1, i 1, o])),
    (755, (L 6 [N, i 1, s 1 99, i 1, i 1, e])),
    (2059, (L 6 [N, i 1, s 1 99, i 1, i 2, e])),
    (3372, (L 3 [o, s 1 97, i 3])),
    (3441, (L 6 [N, i 1, s 1 99, i 1, i 3, e])),
    (1, (L 8 [i 100, o, N, N, N, N, o, N])),
    (18, (L 4 [o, o, o, o])),
    (25, (L 7 [o, e, o, o, o, o, o])),
    (32, (L 7 [o, e, o, o, o, o, o])),
    (38, (L 8 y9)),
    (40, (B 3 66051)),
    (36, (B 3 66051)),
    (102, (L 4 [o, o, o, o])),
    (34, (.cells 0 (.byt 3 66051) 0 0 0 0 false false))]

open ckS in
/-- A state on the way. -/
noncomputable def ck34 : Ck where
  cur := ⟨115, (v [(0, (a y0)), (1, P 12584), (2, S 12625 7 0 15 15 1), (3, P 12584), (4, (a [o, s 1 97, i 2, o])), (5, (a [o, e, o, o])), (6, t), (7, t), (8, p 12584 0 13), (9, i 1), (10, t), (11, t), (12, t), (13, p 12584 0 13), (14, i 1), (15, t), (16, t), (17, (.tup [])), (18, p 12584 0 13), (19, i 1), (20, t), (21, t), (22, (.tup [])), (23, (.tup [])), (24, (.tup [])), (25, t), (26, t), (27, p 12584 0 13), (28, i 1), (29, f), (30, f), (31, p 12584 0 15), (32, e), (33, t), (34, t), (35, t), (36, t), (37, p 12584 0 13), (38, i 1), (39, f), (40, f), (41, p 12584 0 16), (42, (a [o, e, o, o])), (43, (a [o, e, o, o])), (44, t), (45, t), (46, t), (47, t), (48, p 12584 0 15), (49, e), (50, t), (51, t), (52, (.tup [])), (53, P 12584), (54, (a [o, s 1 97, i 2, o])), (55, S 12607 2 0 6 6 1), (56, p 12584 0 4), (57, (a [o, e, o, o])), (58, (.sl (q 12609) 0 0 1 1 true 1)), (59, p 12584 0 8), (60, (a [o, e, o, o])), (61, (.sl (q 12611) 0 0 1 1 true 1)), (62, p 12584 0 12), (63, s 2 355), (64, (.sl (q 12613) 0 0 3 10 true 1)), (65, p 12584 0 13), (66, i 1), (67, (u64 1)), (68, (.sl (q 12615) 0 0 1 10 true 1)), (69, p 12584 0 14), (70, i 1), (71, (.sl (q 12617) 0 0 1 10 true 1)), (72, p 12584 0 15), (73, e), (74, (.sl (q 12620) 0 0 1 10 true 1)), (75, p 12584 0 16), (76, (a [o, e, o, o])), (77, (.sl (q 12623) 0 0 1 1 true 1)), (78, (.sl (q 12585) 0 0 8 8 true 1)), (79, S 12625 7 0 15 15 1)]), [.code .ret], [], .run, false, none⟩
  callers := [⟨65, (v [(0, (a y6)), (1, P 12582), (2, N), (3, P 12583), (4, N), (5, (a y6)), (6, P 12582), (7, i 1), (8, t), (9, t), (18, p 12582 0 1), (19, (a y0))]), [.ops (oAt (zz 65 [1, 1, 1, 0, 1, 1, 0, 1, 0, 1, 0, 1, 0, 1, 1, 0]) 2), .code (.exit 0), .inBlock 2, .code (zz 65 [1, 1, 1, 0, 1, 1, 0, 1, 0, 1, 0, 1, 1]), .inBlock 3, .code (zz 65 [1, 1, 1, 0, 1, 1, 0, 1, 0, 1, 1]), .inBlock 4, .code (zz 65 [1, 1, 1, 0, 1, 1, 0, 1, 1]), .inBlock 5, .code (zz 65 [1, 1, 1, 0, 1, 1, 1]), .inBlock 0, .code (zz 65 [1, 1, 1, 1])], [], .run, false, none⟩, ⟨160, (v [(0, P 12548), (1, P 12553), (2, P 12555), (3, P 12556), (4, p 12548 0 1), (5, S 12544 0 0 15 15 1), (6, P 12555), (7, P 12548), (8, i 1), (9, (a y25)), (10, P 12556), (11, i 1), (12, t), (13, t), (14, P 12555), (15, (.tup [(a y0), o])), (16, (a y0)), (17, o), (18, (a y0)), (19, p 12556 0 1), (57, P 12555), (58, o), (59, o), (60, (a y6))]), [.ops (oAt (zz 160 [1, 1, 1, 1, 1, 0]) 1), .code (zz 160 [1, 1, 1, 1, 1, 1])], [], .run, false, none⟩, ⟨159, (v [(0, i 4), (1, (.fn (.func 160) [] [P 12548])), (2, P 12550), (4, P 12551), (5, P 12552), (6, (.fn (.func 234) [] [P 12550, P 12551, P 12552])), (7, (.fn (.func 160) [] [P 12548]))]), [.ops (oAt (zz 159 [1, 1, 0]) 1), .code .ret], [.call 234 [P 12550, P 12551, P 12552]], .run, false, none⟩, ⟨93, (v [(0, (a [i 1, S 12544 0 0 15 15 1])), (1, P 12548), (2, P 12549), (3, o), (4, (.fn (.func 160) [] [P 12548]))]), [.ops (oAt (zz 93 [1, 0]) 1), .code .ret], [], .run, false, none⟩, ⟨49, (v [(0, P 104), (2, M), (3, o), (4, P 12249), (5, S 12251 0 0 233 233 1), (6, o), (7, P 12252), (8, i 42), (9, P 12547), (12, P 104), (13, P 11958), (14, f), (15, P 12238), (16, P 12243), (17, m 12244), (18, m 12245), (19, (a y56)), (20, P 104), (21, m 12246), (22, m 12247), (23, (a y35)), (24, P 12248), (25, (.tup [S 12251 0 0 233 233 1, o])), (26, P 104), (27, P 104), (28, i 1), (29, (.tup [S 12251 0 0 233 233 1, o])), (30, S 12251 0 0 233 233 1), (31, o), (32, S 12251 0 0 233 233 1), (33, (.fn (.func 157) [] [P 12255])), (34, i 42), (35, (a [i 1, S 12544 0 0 15 15 1])), (37, (a [i 1, S 12544 0 0 15 15 1]))]), [.ops (oAt (zz 49 [1, 1, 1, 1, 1, 1, 1, 0, 1, 1, 1, 1, 0]) 1), .code (zz 49 [1, 1, 1, 1, 1, 1, 1, 0, 1, 1, 1, 1, 1]), .inBlock 1], [], .run, false, (some (q 12257))⟩, ⟨157, (v [(0, (.yield (q 12257))), (1, P 12255), (2, P 12258), (3, P 12259), (4, i 42), (5, P 12546), (6, S 12254 0 0 233 233 1), (7, (.fn (.func 232) [] [P 12260, P 12261])), (8, i 42), (9, (a [i 1, S 12544 0 0 15 15 1])), (10, (.yield (q 12257))), (11, i 42), (12, (a [i 1, S 12544 0 0 15 15 1]))]), [.ops (oAt (zz 157 [1, 1, 1, 1, 1, 1, 0]) 3), .code (zz 157 [1, 1, 1, 1, 1, 1, 1]), .inBlock 1], [], .run, false, (some (q 12263))⟩, ⟨232, (v [(0, (.yield (q 12263))), (1, P 12260), (2, P 12261), (4, i 42), (5, P 12545), (6, i 24), (7, o), (8, i 42), (9, S 12254 0 0 233 233 1), (10, i 233), (11, t), (12, (.tup [(a [i 1, S 12544 0 0 15 15 1]), i 24, o])), (13, S 12254 0 0 233 233 1), (14, i 42), (15, S 12254 0 42 191 191 1), (16, (.tup [(a [i 1, S 12544 0 0 15 15 1]), i 24, o])), (17, (a [i 1, S 12544 0 0 15 15 1])), (18, i 24), (19, o), (20, o), (21, f), (25, (.yield (q 12263))), (26, i 42), (27, (a [i 1, S 12544 0 0 15 15 1])), (28, t), (29, f), (30, i 26), (31, i 16), (32, i 42)]), [.ops (oAt (zz 232 [1, 1, 1, 1, 1, 1, 1, 1, 1, 0, 0]) 3), .code (zz 232 [1, 1, 1, 1, 1, 1, 1, 1, 1, 0, 1]), .code (zz 232 [1, 1, 1, 1, 1, 1, 1, 1, 1, 1]), .inBlock 1, .inLoop (zz 232 [1, 1, 1, 1, 1]), .inBlock 0, .inScope (zz 232 [1])], [], .run, false, none⟩, f11, f12, f13, f14, f15, f0]
  next := (q 12626)
  ser := 11242
  bs := w [(12584, (L 20 y0)),
    (12625, (.cells 1 (.byt 15 5192406109161146203133489210064896) 0 6 7 0 false false)),
    (12607, (.cells 1 (.byt 6 1099534762496) 0 1 2 0 false false)),
    (12609, (.cells 0 (.byt 1 0) 0 0 0 0 false false)),
    (12611, (.cells 0 (.byt 1 0) 0 0 0 0 false false)),
    (12613, (B 10 9470313411622754844672)),
    (12615, (B 10 4722366482869645213696)),
    (12617, (B 10 9444732965739290427392)),
    (12620, (B 10 0)),
    (12623, (.cells 0 (.byt 1 0) 0 0 0 0 false false)),
    (12585, (L 8 [S 12607 2 0 6 6 1, (.sl (q 12609) 0 0 1 1 true 1), (.sl (q 12611) 0 0 1 1 true 1), (.sl (q 12613) 0 0 3 10 true 1), (.sl (q 12615) 0 0 1 10 true 1), (.sl (q 12617) 0 0 1 10 true 1), (.sl (q 12620) 0 0 1 10 true 1), (.sl (q 12623) 0 0 1 1 true 1)])),
    (12582, (L 39 y6)),
    (12583, (L 39 y6)),
    (12548, (L 2 [i 1, S 12544 0 0 15 15 1])),
    (12544, (B 15 5192406109161146203133489210064896)),
    (12553, (L 39 y7)),
    (12555, (L 2 [(.sl (q 12554) 0 0 15 16 true 1), i 15])),
    (12554, (B 16 1329255963945253428002173237776613376)),
    (12556, (L 39 y6)),
    (12550, (L 1 [i 4])),
    (12551, (L 39 y7)),
    (12552, (L 1 [o])),
    (12549, (L 39 y7)),
    (104, (L 8 y61)),
    b4,
    b101,
    b102,
    (435, (B 13 316912650135562894202732896513)),
    (582, (B 16 2658455993899308755378002830995489024)),
    (735, (B 16 3987683989750119525917084813969416449)),
    (1329, (B 13 316912650136765236195207766274)),
    b0,
    b1,
    (2026, (B 16 3987683989731756852014800065179771138)),
    (2642, (B 13 316912650142391776956515442947)),
    b2,
    b3,
    (3339, (B 16 3987683989632802078961797899715961091)),
    (3436, (B 16 3987683989545847660814512321527374083)),
    (4025, (B 13 316912650139318993637393654273)),
    b6,
    b7,
    (4722, (B 16 3987683989755313683660252679566877185)),
    (8344, (B 13 316912650142391776956515442947)),
    (8388, (B 13 316912650139318993637393654273)),
    (8495, (B 16 2658455993899308755378002830995489024)),
    b52,
    b53,
    b54,
    b55,
    b56,
    b57,
    (9110, (B 16 3987683989632802078961797899715961091)),
    (9166, (B 16 3987683989755313683660252679566877185)),
    (11667, (B 12 1547425049328937464389173602)),
    (12249, (L 1 [P 12248])),
    (12248, (L 8 [P 12238, P 12501, m 12244, m 12245, P 104, m 12246, m 12247, N])),
    (12238, (L 2 [t, m 12237])),
    (12237, (.map 0 [((a [o, s 1 97, i 1]), (a y42), 0)] 1)),
    (12538, (L 0 [])),
    (12501, (L 5 [t, m 12510, m 12511, m 12512, m 12513])),
    (12510, (.map 0 [] 0)),
    (12511, (.map 0 [] 0)),
    (12512, (.map 0 [] 0)),
    (12513, (.map 0 [] 0)),
    (12244, (.map 0 [((a [o, s 1 97, i 1]), (a [o, e, o, o]), 0)] 1)),
    (12245, (.map 0 [((a [o, s 1 97, i 1]), N, 0)] 1)),
    (12246, (.map 0 [] 0)),
    b103,
    b104,
    (12252, (L 1 [i 42])),
    (12547, (L 2 [i 1, S 12544 0 0 15 15 1])),
    b105,
    b106,
    b107,
    b108,
    (11971, (B 13 316912650135562894202732896513)),
    (11982, (B 16 2658455993899308755378002830995489024)),
    (11991, (B 16 3987683989750119525917084813969416449)),
    (12000, (B 13 316912650136765236195207766274)),
    b109,
    b110,
    (12027, (B 16 3987683989731756852014800065179771138)),
    (12036, (B 13 316912650142391776956515442947)),
    b111,
    b112,
    (12063, (B 16 3987683989632802078961797899715961091)),
    (12072, (B 16 3987683989545847660814512321527374083)),
    (12081, (B 13 316912650139318993637393654273)),
    b113,
    b114,
    (12108, (B 16 3987683989755313683660252679566877185)),
    (12124, (B 13 316912650142391776956515442947)),
    (12134, (B 13 316912650139318993637393654273)),
    (12143, (B 16 2658455993899308755378002830995489024)),
    b115,
    b116,
    b117,
    b118,
    b119,
    b120,
    (12206, (B 16 3987683989632802078961797899715961091)),
    (12215, (B 16 3987683989755313683660252679566877185)),
    (12231, (B 12 1547425049328937464389173602)),
    (12243, (L 5 [t, m 12239, m 12240, m 12241, m 12242])),
    (12239, (.map 0 [] 0)),
    (12240, (.map 0 [] 0)),
    (12241, (.map 0 [] 0)),
    (12242, (.map 0 [] 0)),
    (12255, (L 1 [S 12254 0 0 233 233 1])),
    b121,
    b122,
    (12256, (.dfr 10909)),
    (12258, (L 1 [(.yield (q 12257))])),
    (12259, (L 1 [o])),
    (12546, (L 2 [i 1, S 12544 0 0 15 15 1])),
    (12260, (L 1 [S 12254 0 0 233 233 1])),
    (12261, (L 1 [P 12259])),
    b123,
    (12262, (.dfr 10915)),
    (12545, (L 2 [i 1, S 12544 0 0 15 15 1])),
    b124,
    b125,
    b126,
    b127,
    (11689, (B 13 316912650135562894202732896513)),
    (11700, (B 16 2658455993899308755378002830995489024)),
    (11709, (B 16 3987683989750119525917084813969416449)),
    (11718, (B 13 316912650136765236195207766274)),
    b128,
    b129,
    (11745, (B 16 3987683989731756852014800065179771138)),
    (11754, (B 13 316912650142391776956515442947)),
    b130,
    b131,
    (11781, (B 16 3987683989632802078961797899715961091)),
    (11790, (B 16 3987683989545847660814512321527374083)),
    (11799, (B 13 316912650139318993637393654273)),
    b132,
    b133,
    (11826, (B 16 3987683989755313683660252679566877185)),
    (11842, (B 13 316912650142391776956515442947)),
    (11852, (B 13 316912650139318993637393654273)),
    (11861, (B 16 2658455993899308755378002830995489024)),
    b134,
    b135,
    b136,
    b137,
    b138,
    b139,
    (11924, (B 16 3987683989632802078961797899715961091)),
    (11933, (B 16 3987683989755313683660252679566877185)),
    (11949, (B 12 1547425049328937464389173602)),
    (11672, (L 4 [o, o, o, o])),
    (11625, (L 2 [P 9732, o])),
    (9732, (L 8 y16)),
    (9722, (L 2 [t, m 9721])),
    b95,
    (10022, (L 0 [])),
    (10500, (L 3 [o, s 1 97, i 1])),
    (10978, (L 3 [o, s 1 97, i 2])),
    (11456, (L 3 [o, s 1 97, i 3])),
    (11377, (L 5 y30)),
    b96,
    (10461, (L 9 y3)),
    (10939, (L 9 y4)),
    (11417, (L 9 y5)),
    b97,
    (11389, (.map 0 [] 0)),
    b98,
    b99,
    b100,
    (10420, (L 20 y0)),
    (10898, (L 20 y1)),
    (11376, (L 20 y2)),
    b140,
    b58,
    (154, (L 2 [o, s 1 97])),
    (155, (L 2 [o, s 1 98])),
    (2060, (L 7 [o, s 1 97, i 3, i 1, i 1, i 1, o])),
    (11626, (L 4 [o, o, i 74, i 13])),
    (151, (L 2 [P 138, o])),
    (138, (L 8 y10)),
    (128, (L 2 [t, m 127])),
    b30,
    (1968, (L 3 [o, s 1 97, i 1])),
    (3281, (L 3 [o, s 1 97, i 2])),
    (4664, (L 3 [o, s 1 97, i 3])),
    (4585, (L 5 [t, m 4595, m 4596, m 4597, m 4598])),
    b31,
    (1929, (L 9 y3)),
    (3242, (L 9 y4)),
    (4625, (L 9 y5)),
    b32,
    (4597, (.map 0 [] 0)),
    b33,
    b34,
    b35,
    (1888, (L 20 y0)),
    (3201, (L 20 y1)),
    (4584, (L 20 y2)),
    b36,
    b37,
    (755, (L 6 [N, i 1, s 1 99, i 1, i 1, e])),
    (2059, (L 6 [N, i 1, s 1 99, i 1, i 2, e])),
    (3372, (L 3 [o, s 1 97, i 3])),
    (3441, (L 6 [N, i 1, s 1 99, i 1, i 3, e])),
    (1, (L 8 [i 100, o, N, N, N, N, o, N])),
    (18, (L 4 [o, o, o, o])),
    (25, (L 7 [o, e, o, o, o, o, o])),
    (32, (L 7 [o, e, o, o, o, o, o])),
    (38, (L 8 y9)),
    (40, (B 3 66051)),
    (36, (B 3 66051)),
    (102, (L 4 [o, o, o, o])),
    (34, (.cells 0 (.byt 3 66051) 0 0 0 0 false false))]

open ckS in
/-- A state on the way. -/
noncomputable def ck37 : Ck where
  cur := ⟨49, (v [(0, P 104), (2, M), (3, o), (4, P 12249), (5, S 12251 0 0 233 233 1), (6, o), (7, P 12252), (8, i 115), (9, P 13121), (10, P 13250), (11, o), (12, P 104), (13, P 11958), (14, f), (15, P 12238), (16, P 12243), (17, m 12244), (18, m 12245), (19, (a y56)), (20, P 104), (21, m 12246), (22, m 12247), (23, (a y35)), (24, P 12248), (25, (.tup [S 12251 0 0 233 233 1, o])), (26, P 104), (27, P 104), (28, i 1), (29, (.tup [S 12251 0 0 233 233 1, o])), (30, S 12251 0 0 233 233 1), (31, o), (32, S 12251 0 0 233 233 1), (33, (.fn (.func 157) [] [P 12255])), (34, i 115), (35, (a [i 2, S 13118 0 0 16 16 1])), (36, (.tup [(a y21), o])), (37, (a [i 2, S 13118 0 0 16 16 1])), (38, (.tup [(a y21), o])), (39, (a y21)), (40, o), (41, o), (42, f), (43, f), (44, m 13251), (45, P 13250), (46, i 2), (47, (.fn (.func 174) [] [])), (48, P 12248), (49, (a y21)), (50, t), (51, f), (52, f)]), [.code (zz 49 [1, 1, 1, 1, 1, 1, 1, 0, 1, 1, 1, 1, 1, 0, 1]), .code (zz 49 [1, 1, 1, 1, 1, 1, 1, 0, 1, 1, 1, 1, 1, 1]), .inBlock 1], [], .run, false, (some (q 12257))⟩
  callers := [⟨157, (v [(0, (.yield (q 12257))), (1, P 12255), (2, P 12258), (3, P 12259), (4, i 115), (5, P 13120), (6, S 12254 0 0 233 233 1), (7, (.fn (.func 232) [] [P 12260, P 12261])), (8, i 115), (9, (a [i 2, S 13118 0 0 16 16 1])), (10, (.yield (q 12257))), (11, i 115), (12, (a [i 2, S 13118 0 0 16 16 1]))]), [.ops (oAt (zz 157 [1, 1, 1, 1, 1, 1, 0]) 3), .code (zz 157 [1, 1, 1, 1, 1, 1, 1]), .inBlock 1], [], .run, false, (some (q 12263))⟩, ⟨232, (v [(0, (.yield (q 12263))), (1, P 12260), (2, P 12261), (4, i 115), (5, P 13119), (6, i 25), (7, o), (8, i 115), (9, S 12254 0 0 233 233 1), (10, i 233), (11, t), (12, (.tup [(a [i 2, S 13118 0 0 16 16 1]), i 25, o])), (13, S 12254 0 0 233 233 1), (14, i 115), (15, S 12254 0 115 118 118 1), (16, (.tup [(a [i 2, S 13118 0 0 16 16 1]), i 25, o])), (17, (a [i 2, S 13118 0 0 16 16 1])), (18, i 25), (19, o), (20, o), (21, f), (25, (.yield (q 12263))), (26, i 115), (27, (a [i 2, S 13118 0 0 16 16 1])), (28, t), (29, f), (30, i 91), (31, i 24), (32, i 115)]), [.ops (oAt (zz 232 [1, 1, 1, 1, 1, 1, 1, 1, 1, 0, 0]) 3), .code (zz 232 [1, 1, 1, 1, 1, 1, 1, 1, 1, 0, 1]), .code (zz 232 [1, 1, 1, 1, 1, 1, 1, 1, 1, 1]), .inBlock 1, .inLoop (zz 232 [1, 1, 1, 1, 1]), .inBlock 0, .inScope (zz 232 [1])], [], .run, false, none⟩, f11, f12, f13, f14, f15, f0]
  next := (q 13495)
  ser := 12019
  bs := w [(104, (L 8 y61)),
    b4,
    b101,
    b102,
    (435, (B 13 316912650135562894202732896513)),
    (582, (B 16 2658455993899308755378002830995489024)),
    (735, (B 16 3987683989750119525917084813969416449)),
    (1329, (B 13 316912650136765236195207766274)),
    b0,
    b1,
    (2026, (B 16 3987683989731756852014800065179771138)),
    (2642, (B 13 316912650142391776956515442947)),
    b2,
    b3,
    (3339, (B 16 3987683989632802078961797899715961091)),
    (3436, (B 16 3987683989545847660814512321527374083)),
    (4025, (B 13 316912650139318993637393654273)),
    b6,
    b7,
    (4722, (B 16 3987683989755313683660252679566877185)),
    (8344, (B 13 316912650142391776956515442947)),
    (8388, (B 13 316912650139318993637393654273)),
    (8495, (B 16 2658455993899308755378002830995489024)),
    b52,
    b53,
    b54,
    b55,
    b56,
    b57,
    (9110, (B 16 3987683989632802078961797899715961091)),
    (9166, (B 16 3987683989755313683660252679566877185)),
    (11667, (B 12 1547425049328937464389173602)),
    (12249, (L 1 [P 12248])),
    (12248, (L 8 [P 12238, P 13415, m 12244, m 12245, P 104, m 12246, m 12247, N])),
    (12238, (L 2 [t, m 12237])),
    (12237, (.map 0 [((a [o, s 1 97, i 1]), (a y42), 0), ((a [o, s 1 97, i 2]), (a y62), 1), ((a [o, s 1 97, i 3]), (a y63), 2)] 3)),
    (12538, (L 0 [])),
    (13016, (L 3 [o, s 1 97, i 1])),
    (13494, (L 3 [o, s 1 97, i 2])),
    (13415, (L 5 [t, m 13425, m 13426, m 13427, m 13428])),
    (13425, (.map 0 [((.ifc 143 (P 12977)), (a [o, s 1 97, i 2, o]), 0), ((.ifc 143 (P 13455)), (a [o, s 1 97, i 3, o]), 1)] 2)),
    (12977, (L 9 y3)),
    (13455, (L 9 y4)),
    (13426, (.map 0 [((a [o, s 1 97, i 2, o]), P 12977, 0), ((a [o, s 1 97, i 3, o]), P 13455, 1)] 2)),
    (13427, (.map 0 [] 0)),
    (13428, (.map 0 [((a [o, s 1 97, i 2]), t, 0), ((a [o, s 1 97, i 3]), t, 1)] 2)),
    (12244, (.map 0 [((a [o, s 1 97, i 1]), (a [o, e, o, o]), 0), ((a [o, s 1 97, i 2]), (a [o, s 1 97, i 2, o]), 1), ((a [o, s 1 97, i 3]), (a [o, s 1 97, i 3, o]), 2)] 3)),
    (12245, (.map 0 [((a [o, s 1 97, i 1]), N, 0), ((a [o, s 1 97, i 2]), S 12936 0 0 1 1 20, 1), ((a [o, s 1 97, i 3]), S 13414 0 0 1 1 20, 2)] 3)),
    (12936, (L 20 y0)),
    (13414, (L 20 y1)),
    (12246, (.map 0 [] 0)),
    b103,
    b104,
    (12252, (L 1 [i 115])),
    (13121, (L 2 [i 2, S 13118 0 0 16 16 1])),
    (13118, (B 16 7159928584068104119629961073066752)),
    (13250, (L 39 y21)),
    (13161, (L 3 [o, s 1 97, i 2])),
    b105,
    b106,
    b107,
    b108,
    (11971, (B 13 316912650135562894202732896513)),
    (11982, (B 16 2658455993899308755378002830995489024)),
    (11991, (B 16 3987683989750119525917084813969416449)),
    (12000, (B 13 316912650136765236195207766274)),
    b109,
    b110,
    (12027, (B 16 3987683989731756852014800065179771138)),
    (12036, (B 13 316912650142391776956515442947)),
    b111,
    b112,
    (12063, (B 16 3987683989632802078961797899715961091)),
    (12072, (B 16 3987683989545847660814512321527374083)),
    (12081, (B 13 316912650139318993637393654273)),
    b113,
    b114,
    (12108, (B 16 3987683989755313683660252679566877185)),
    (12124, (B 13 316912650142391776956515442947)),
    (12134, (B 13 316912650139318993637393654273)),
    (12143, (B 16 2658455993899308755378002830995489024)),
    b115,
    b116,
    b117,
    b118,
    b119,
    b120,
    (12206, (B 16 3987683989632802078961797899715961091)),
    (12215, (B 16 3987683989755313683660252679566877185)),
    (12231, (B 12 1547425049328937464389173602)),
    (12243, (L 5 [t, m 12239, m 12240, m 12241, m 12242])),
    (12239, (.map 0 [] 0)),
    (12240, (.map 0 [] 0)),
    (12241, (.map 0 [] 0)),
    (12242, (.map 0 [] 0)),
    (12255, (L 1 [S 12254 0 0 233 233 1])),
    b121,
    (13251, (.map 0 [((i 1), (.fn (.func 173) [] []), 0), ((i 2), (.fn (.func 174) [] []), 1), ((i 3), (.fn (.func 175) [] []), 2), ((i 4), (.fn (.func 176) [] []), 3), ((i 5), (.fn (.func 177) [] []), 4)] 5)),
    b122,
    (12256, (.dfr 10909)),
    (12258, (L 1 [(.yield (q 12257))])),
    (12259, (L 1 [o])),
    (13120, (L 2 [i 2, S 13118 0 0 16 16 1])),
    (12260, (L 1 [S 12254 0 0 233 233 1])),
    (12261, (L 1 [P 12259])),
    b123,
    (12262, (.dfr 10915)),
    (13119, (L 2 [i 2, S 13118 0 0 16 16 1])),
    b124,
    b125,
    b126,
    b127,
    (11689, (B 13 316912650135562894202732896513)),
    (11700, (B 16 2658455993899308755378002830995489024)),
    (11709, (B 16 3987683989750119525917084813969416449)),
    (11718, (B 13 316912650136765236195207766274)),
    b128,
    b129,
    (11745, (B 16 3987683989731756852014800065179771138)),
    (11754, (B 13 316912650142391776956515442947)),
    b130,
    b131,
    (11781, (B 16 3987683989632802078961797899715961091)),
    (11790, (B 16 3987683989545847660814512321527374083)),
    (11799, (B 13 316912650139318993637393654273)),
    b132,
    b133,
    (11826, (B 16 3987683989755313683660252679566877185)),
    (11842, (B 13 316912650142391776956515442947)),
    (11852, (B 13 316912650139318993637393654273)),
    (11861, (B 16 2658455993899308755378002830995489024)),
    b134,
    b135,
    b136,
    b137,
    b138,
    b139,
    (11924, (B 16 3987683989632802078961797899715961091)),
    (11933, (B 16 3987683989755313683660252679566877185)),
    (11949, (B 12 1547425049328937464389173602)),
    (11672, (L 4 [o, o, o, o])),
    (11625, (L 2 [P 9732, o])),
    (9732, (L 8 y16)),
    (9722, (L 2 [t, m 9721])),
    b95,
    (10022, (L 0 [])),
    (10500, (L 3 [o, s 1 97, i 1])),
    (10978, (L 3 [o, s 1 97, i 2])),
    (11456, (L 3 [o, s 1 97, i 3])),
    (11377, (L 5 y30)),
    b96,
    (10461, (L 9 y3)),
    (10939, (L 9 y4)),
    (11417, (L 9 y5)),
    b97,
    (11389, (.map 0 [] 0)),
    b98,
    b99,
    b100,
    (10420, (L 20 y0)),
    (10898, (L 20 y1)),
    (11376, (L 20 y2)),
    b140,
    b58,
    (154, (L 2 [o, s 1 97])),
    (155, (L 2 [o, s 1 98])),
    (2060, (L 7 [o, s 1 97, i 3, i 1, i 1, i 1, o])),
    (11626, (L 4 [o, o, i 74, i 13])),
    (151, (L 2 [P 138, o])),
    (138, (L 8 y10)),
    (128, (L 2 [t, m 127])),
    b30,
    (1968, (L 3 [o, s 1 97, i 1])),
    (3281, (L 3 [o, s 1 97, i 2])),
    (4664, (L 3 [o, s 1 97, i 3])),
    (4585, (L 5 [t, m 4595, m 4596, m 4597, m 4598])),
    b31,
    (1929, (L 9 y3)),
    (3242, (L 9 y4)),
    (4625, (L 9 y5)),
    b32,
    (4597, (.map 0 [] 0)),
    b33,
    b34,
    b35,
    (1888, (L 20 y0)),
    (3201, (L 20 y1)),
    (4584, (L 20 y2)),
    b36,
    b37,
    (755, (L 6 [N, i 1, s 1 99, i 1, i 1, e])),
    (2059, (L 6 [N, i 1, s 1 99, i 1, i 2, e])),
    (3372, (L 3 [o, s 1 97, i 3])),
    (3441, (L 6 [N, i 1, s 1 99, i 1, i 3, e])),
    (1, (L 8 [i 100, o, N, N, N, N, o, N])),
    (18, (L 4 [o, o, o, o])),
    (25, (L 7 [o, e, o, o, o, o, o])),
    (32, (L 7 [o, e, o, o, o, o, o])),
    (38, (L 8 y9)),
    (40, (B 3 66051)),
    (36, (B 3 66051)),
    (102, (L 4 [o, o, o, o])),
    (34, (.cells 0 (.byt 3 66051) 0 0 0 0 false false))]

open ckS in
/-- A state on the way. -/
noncomputable def ck41 : Ck where
  cur := ⟨78, (v [(0, P 14288), (1, S 14287 0 0 1 1 3), (4, N), (5, o), (6, o), (7, P 14288), (8, S 14287 0 0 1 1 3), (9, o), (10, o), (11, f), (13, P 14288), (14, P 14288), (15, S 14287 0 0 1 1 3), (16, m 14297), (17, S 14303 2 0 3 3 3)]), [.ops (oAt (zz 78 [1, 1, 0]) 5), .code .ret], [], .run, false, none⟩
  callers := [⟨47, (v [(0, P 14194), (2, N), (3, S 14287 0 0 1 1 3), (5, P 14285), (8, P 14194), (9, S 14284 0 0 1 1 5), (10, i 1), (11, i 1), (12, f), (13, P 14284), (14, (a [o, s 1 97, o, s 1 97, i 3])), (15, N), (16, p 14285 0 2), (17, (a [o, s 1 97, i 3])), (18, (.sl (q 14286) 0 0 1 1 true 3)), (19, S 14287 0 0 1 1 3), (20, i 1), (22, P 14194), (23, P 14288), (24, S 14287 0 0 1 1 3)]), [.ops (oAt (zz 47 [1, 1, 1, 0]) 3), .code (zz 47 [1, 1, 1, 1])], [], .run, false, none⟩, ⟨44, (v [(0, (.yield (q 14201))), (1, P 14199), (3, P 12248), (5, P 14242), (14, P 14194), (15, P 12248), (16, P 12248), (17, S 14203 1 0 2 2 2), (18, i 2), (19, i 2), (20, f), (21, p 14203 1 2), (22, (a [o, s 1 98])), (23, (.yield (q 14201))), (24, (a [o, s 1 98])), (25, P 12248), (26, (a [o, s 1 98])), (27, i 1), (28, (a y47)), (29, t), (30, f), (31, i 2), (32, P 14194)]), [.ops (oAt (zz 44 [1, 1, 0, 0]) 1), .code (zz 44 [1, 1, 0, 1]), .code (zz 44 [1, 1, 1])], [], .run, false, none⟩, ⟨5, (v [(0, P 14194), (2, P 14196), (3, P 14197), (4, P 14198), (5, o), (9, P 14194), (10, P 12248), (11, f), (12, P 14194), (13, (.fn (.func 44) [] [P 14199]))]), [.inRange (q 14201), .inBlock 0, .code (zz 5 [1, 1, 1])], [.mark (q 14200)], .run, false, none⟩, ⟨6, (v [(0, P 104), (1, o), (4, M), (5, P 11672), (6, o), (7, P 14195), (8, o), (31, (.tup [P 14194, o])), (32, o), (33, P 104), (34, (.tup [P 14194, o])), (35, P 14194), (36, o), (37, o), (38, f), (42, P 14194)]), [.ops (oAt (zz 6 [1, 1, 1, 0]) 1), .code (zz 6 [1, 1, 1, 1])], [], .run, false, none⟩, f15, f0]
  next := (q 14304)
  ser := 12734
  bs := w [(14288, (L 2 [t, m 14293])),
    (14293, (.map 0 [((a [o, s 1 97, i 1]), (a [o, s 1 97, i 1, (.sl (q 14289) 0 0 0 0 true 3), i 1, N]), 0), ((a [o, s 1 97, i 2]), (a [o, s 1 97, i 2, S 14290 0 0 1 1 3, i 2, N]), 1), ((a [o, s 1 97, i 3]), (a [o, s 1 97, i 3, S 14291 0 0 1 1 3, i 3, N]), 2), ((a [o, s 1 98, i 1]), (a [o, s 1 98, i 1, S 14292 0 0 1 1 3, i 4, N]), 3)] 4)),
    (14289, (L 0 [])),
    (14290, (L 3 [o, s 1 97, i 1])),
    (14291, (L 3 [o, s 1 97, i 2])),
    (14292, (L 3 [o, s 1 97, i 3])),
    (14287, (L 3 [o, s 1 97, i 3])),
    (14297, (.map 0 [((a [o, s 1 97, i 3]), t, 0), ((a [o, s 1 97, i 2]), t, 1), ((a [o, s 1 97, i 1]), t, 2)] 3)),
    (14303, (.cells 0 (.lst 9 [o, s 1 97, i 1, o, s 1 97, i 2, o, s 1 97, i 3]) 0 0 2 2 false false)),
    (14194, (L 2 [P 12248, o])),
    (12248, (L 8 y55)),
    (12238, (L 2 [t, m 12237])),
    b141,
    (12538, (L 0 [])),
    (13016, (L 3 [o, s 1 97, i 1])),
    (13494, (L 3 [o, s 1 97, i 2])),
    (13972, (L 3 [o, s 1 97, i 3])),
    (13893, (L 5 [t, m 13903, m 13904, m 13905, m 13906])),
    b142,
    (12977, (L 9 y3)),
    (13455, (L 9 y4)),
    (13933, (L 9 y5)),
    b143,
    (13905, (.map 0 [] 0)),
    b144,
    b145,
    b146,
    (12936, (L 20 y0)),
    (13414, (L 20 y1)),
    (13892, (L 20 y2)),
    (104, (L 8 y61)),
    b4,
    b101,
    b102,
    (435, (B 13 316912650135562894202732896513)),
    (582, (B 16 2658455993899308755378002830995489024)),
    (735, (B 16 3987683989750119525917084813969416449)),
    (1329, (B 13 316912650136765236195207766274)),
    b0,
    b1,
    (2026, (B 16 3987683989731756852014800065179771138)),
    (2642, (B 13 316912650142391776956515442947)),
    b2,
    b3,
    (3339, (B 16 3987683989632802078961797899715961091)),
    (3436, (B 16 3987683989545847660814512321527374083)),
    (4025, (B 13 316912650139318993637393654273)),
    b6,
    b7,
    (4722, (B 16 3987683989755313683660252679566877185)),
    (8344, (B 13 316912650142391776956515442947)),
    (8388, (B 13 316912650139318993637393654273)),
    (8495, (B 16 2658455993899308755378002830995489024)),
    b52,
    b53,
    b54,
    b55,
    b56,
    b57,
    (9110, (B 16 3987683989632802078961797899715961091)),
    (9166, (B 16 3987683989755313683660252679566877185)),
    (11667, (B 12 1547425049328937464389173602)),
    b147,
    b103,
    (14285, (L 5 [o, s 1 97, o, s 1 97, i 3])),
    (14284, (L 5 [o, s 1 97, o, s 1 97, i 3])),
    (14286, (L 3 [o, s 1 97, i 3])),
    (14201, (.loop 12646 .ready none 5 (v [(0, P 14194), (2, P 14196), (3, P 14197), (4, P 14198), (5, o), (9, P 14194), (10, P 12248), (11, f), (12, P 14194), (13, (.fn (.func 44) [] [P 14199]))]) [(q 14)] (zz 5 [1, 1, 0, 1, 1, 0]) (zz 5 [1, 1, 0, 1, 1, 1]) (q 14200))),
    (14196, (L 1 [o])),
    (14197, (L 1 [o])),
    (14198, (L 1 [i 26])),
    (14199, (L 1 [P 14194])),
    (14200, (.dfr 12645)),
    (14242, (L 2 [o, s 1 98])),
    (14203, (.cells 0 (.lst 4 [o, s 1 97, o, s 1 98]) 0 0 1 1 false false)),
    (11672, (L 4 [o, o, o, o])),
    (14195, (L 1 [P 14194])),
    (11625, (L 2 [P 9732, o])),
    (9732, (L 8 y16)),
    (9722, (L 2 [t, m 9721])),
    b95,
    (10022, (L 0 [])),
    (10500, (L 3 [o, s 1 97, i 1])),
    (10978, (L 3 [o, s 1 97, i 2])),
    (11456, (L 3 [o, s 1 97, i 3])),
    (11377, (L 5 y30)),
    b96,
    (10461, (L 9 y3)),
    (10939, (L 9 y4)),
    (11417, (L 9 y5)),
    b97,
    (11389, (.map 0 [] 0)),
    b98,
    b99,
    b100,
    (10420, (L 20 y0)),
    (10898, (L 20 y1)),
    (11376, (L 20 y2)),
    b140,
    b58,
    (154, (L 2 [o, s 1 97])),
    (155, (L 2 [o, s 1 98])),
    (2060, (L 7 [o, s 1 97, i 3, i 1, i 1, i 1, o])),
    (11626, (L 4 [o, o, i 74, i 13])),
    (151, (L 2 [P 138, o])),
    (138, (L 8 y10)),
    (128, (L 2 [t, m 127])),
    b30,
    (1968, (L 3 [o, s 1 97, i 1])),
    (3281, (L 3 [o, s 1 97, i 2])),
    (4664, (L 3 [o, s 1 97, i 3])),
    (4585, (L 5 [t, m 4595, m 4596, m 4597, m 4598])),
    b31,
    (1929, (L 9 y3)),
    (3242, (L 9 y4)),
    (4625, (L 9 y5)),
    b32,
    (4597, (.map 0 [] 0)),
    b33,
    b34,
    b35,
    (1888, (L 20 y0)),
    (3201, (L 20 y1)),
    (4584, (L 20 y2)),
    b36,
    b37,
    (755, (L 6 [N, i 1, s 1 99, i 1, i 1, e])),
    (2059, (L 6 [N, i 1, s 1 99, i 1, i 2, e])),
    (3372, (L 3 [o, s 1 97, i 3])),
    (3441, (L 6 [N, i 1, s 1 99, i 1, i 3, e])),
    (1, (L 8 [i 100, o, N, N, N, N, o, N])),
    (18, (L 4 [o, o, o, o])),
    (25, (L 7 [o, e, o, o, o, o, o])),
    (32, (L 7 [o, e, o, o, o, o, o])),
    (38, (L 8 y9)),
    (40, (B 3 66051)),
    (36, (B 3 66051)),
    (102, (L 4 [o, o, o, o])),
    (34, (.cells 0 (.byt 3 66051) 0 0 0 0 false false))]

open ckS in
/-- A state on the way. -/
noncomputable def ck45 : Ck where
  cur := ⟨44, (v [(0, (.yield (q 14925))), (1, P 14923), (3, P 12248), (5, P 14928), (14, P 14194), (15, P 12248), (16, P 12248), (17, S 14927 1 0 2 2 2), (18, i 2), (19, o), (20, t), (21, p 14927 1 0), (22, (a [o, s 1 97])), (23, (.yield (q 14925))), (24, (a [o, s 1 97])), (25, P 12248), (26, (a [o, s 1 97])), (27, i 3), (28, (a [i 4, o, e, o, o, o, e, o, o, o, e, o, o, e, o, o, e, o, e, o, o, o, e, o, N, o, N, o, e, o, o, o, e, o, e, o, o, s 1 97, i 3])), (29, t), (30, f)]), [.code (zz 44 [1, 0, 1, 1, 1, 1, 1, 0, 1, 1, 1]), .inBlock 1, .code (zz 44 [1, 0, 1, 1, 1, 1, 1, 1]), .inLoop (zz 44 [1, 0, 1, 1, 1]), .inBlock 0, .code (zz 44 [1, 1])], [], .run, false, none⟩
  callers := [⟨6, (v [(0, P 104), (1, o), (4, M), (5, P 11672), (6, o), (7, P 14195), (8, o), (9, i 3), (10, i 2), (11, i 156), (12, o), (13, i 1), (14, S 14778 0 0 233 233 1), (15, o), (16, P 14779), (17, i 9705), (18, S 14781 0 0 295 295 1), (19, o), (20, i 30), (21, P 14782), (25, i 4), (26, P 14922), (31, (.tup [P 14194, o])), (32, o), (33, P 104), (34, (.tup [P 14194, o])), (35, P 14194), (36, o), (37, o), (38, f), (41, (.tup [i 3, i 2, i 156, o])), (42, P 14194), (43, (.tup [i 3, i 2, i 156, o])), (44, i 3), (45, i 2), (46, i 156), (47, o), (48, P 104), (49, i 1), (50, (.tup [S 14778 0 0 233 233 1, o])), (51, P 104), (52, i 1), (53, (.tup [S 14778 0 0 233 233 1, o])), (54, S 14778 0 0 233 233 1), (55, o), (56, i 1), (57, o), (58, P 104), (59, o), (60, i 9705), (61, (.tup [S 14781 0 0 295 295 1, o])), (62, P 104), (63, o), (64, (.tup [S 14781 0 0 295 295 1, o])), (65, S 14781 0 0 295 295 1), (66, o), (67, i 156), (68, i 9705), (69, S 14781 0 0 295 295 1), (70, i 295), (71, i 10000), (72, f), (74, P 104), (75, i 30), (76, P 14194), (77, P 14783), (78, (.fn (.func 57) [] [P 14789])), (92, P 14194), (93, P 14912), (94, i 4), (95, P 104), (96, o), (97, o), (98, P 104), (99, (.fn (.func 26) [P 104] [])), (100, P 14194), (101, (.fn (.func 44) [] [P 14923]))]), [.inRange (q 14925), .inBlock 2, .code (zz 6 [1, 1, 1, 1, 1, 1, 1, 1, 1, 1, 1, 1, 1, 1, 1, 1, 1])], [.mark (q 14924), .mark (q 14795)], .run, false, none⟩, f15, f0]
  next := (q 14972)
  ser := 13311
  bs := w [(14925, (.loop 13268 .ready none 6 (v [(0, P 104), (1, o), (4, M), (5, P 11672), (6, o), (7, P 14195), (8, o), (9, i 3), (10, i 2), (11, i 156), (12, o), (13, i 1), (14, S 14778 0 0 233 233 1), (15, o), (16, P 14779), (17, i 9705), (18, S 14781 0 0 295 295 1), (19, o), (20, i 30), (21, P 14782), (25, i 4), (26, P 14922), (31, (.tup [P 14194, o])), (32, o), (33, P 104), (34, (.tup [P 14194, o])), (35, P 14194), (36, o), (37, o), (38, f), (41, (.tup [i 3, i 2, i 156, o])), (42, P 14194), (43, (.tup [i 3, i 2, i 156, o])), (44, i 3), (45, i 2), (46, i 156), (47, o), (48, P 104), (49, i 1), (50, (.tup [S 14778 0 0 233 233 1, o])), (51, P 104), (52, i 1), (53, (.tup [S 14778 0 0 233 233 1, o])), (54, S 14778 0 0 233 233 1), (55, o), (56, i 1), (57, o), (58, P 104), (59, o), (60, i 9705), (61, (.tup [S 14781 0 0 295 295 1, o])), (62, P 104), (63, o), (64, (.tup [S 14781 0 0 295 295 1, o])), (65, S 14781 0 0 295 295 1), (66, o), (67, i 156), (68, i 9705), (69, S 14781 0 0 295 295 1), (70, i 295), (71, i 10000), (72, f), (74, P 104), (75, i 30), (76, P 14194), (77, P 14783), (78, (.fn (.func 57) [] [P 14789])), (92, P 14194), (93, P 14912), (94, i 4), (95, P 104), (96, o), (97, o), (98, P 104), (99, (.fn (.func 26) [P 104] [])), (100, P 14194), (101, (.fn (.func 44) [] [P 14923]))]) [(q 102)] (zz 6 [1, 1, 1, 1, 1, 1, 1, 1, 1, 1, 1, 1, 1, 1, 1, 1, 0, 1, 1, 0]) (zz 6 [1, 1, 1, 1, 1, 1, 1, 1, 1, 1, 1, 1, 1, 1, 1, 1, 0, 1, 1, 1]) (q 14924))),
    (104, (L 8 [i 10000, i 1, S 14970 0 0 13 13 1, S 8348 11 0 233 233 1, N, N, o, S 441 31 0 32 32 3])),
    (14970, (B 13 316912650142391776956515442947)),
    b101,
    (441, (.cells 0 (.lst 96 [i 1, o, S 435 0 0 13 13 1, i 1, o, S 582 0 0 16 16 1, i 1, o, S 735 0 0 16 16 1, i 1, o, S 1329 0 0 13 13 1, i 1, o, S 1716 0 0 24 24 1, i 1, o, S 1722 0 0 25 25 1, i 1, o, S 2026 0 0 16 16 1, i 1, o, S 2642 0 0 13 13 1, i 1, o, S 3029 0 0 24 24 1, i 1, o, S 3035 0 0 25 25 1, i 1, o, S 3339 0 0 16 16 1, i 1, o, S 3436 0 0 16 16 1, i 1, o, S 4025 0 0 13 13 1, i 1, o, S 4412 0 0 24 24 1, i 1, o, S 4418 0 0 25 25 1, i 1, o, S 4722 0 0 16 16 1, i 2, i 1, N, i 1, i 1, S 8344 0 0 13 13 1, i 1, i 1, S 8388 0 0 13 13 1, i 1, i 1, S 8495 0 0 16 16 1, i 1, i 1, S 8587 0 0 24 24 1, i 1, i 1, S 8679 0 0 25 25 1, i 1, i 1, S 8771 0 0 24 24 1, i 1, i 1, S 8863 0 0 25 25 1, i 1, i 1, S 8955 0 0 24 24 1, i 1, i 1, S 9047 0 0 25 25 1, i 1, i 1, S 9110 0 0 16 16 1, i 1, i 1, S 9166 0 0 16 16 1, i 3, o, N, i 1, i 1, S 11667 0 0 12 12 1, i 2, o, N, i 1, o, S 14966 0 0 13 13 1]) 0 3 31 0 false false)),
    (435, (B 13 316912650135562894202732896513)),
    (582, (B 16 2658455993899308755378002830995489024)),
    (735, (B 16 3987683989750119525917084813969416449)),
    (1329, (B 13 316912650136765236195207766274)),
    b0,
    b1,
    (2026, (B 16 3987683989731756852014800065179771138)),
    (2642, (B 13 316912650142391776956515442947)),
    b2,
    b3,
    (3339, (B 16 3987683989632802078961797899715961091)),
    (3436, (B 16 3987683989545847660814512321527374083)),
    (4025, (B 13 316912650139318993637393654273)),
    b6,
    b7,
    (4722, (B 16 3987683989755313683660252679566877185)),
    (8344, (B 13 316912650142391776956515442947)),
    (8388, (B 13 316912650139318993637393654273)),
    (8495, (B 16 2658455993899308755378002830995489024)),
    b52,
    b53,
    b54,
    b55,
    b56,
    b57,
    (9110, (B 16 3987683989632802078961797899715961091)),
    (9166, (B 16 3987683989755313683660252679566877185)),
    (11667, (B 12 1547425049328937464389173602)),
    (14966, (B 13 316912650142391776956515442947)),
    (11672, (L 4 [o, o, o, o])),
    (14195, (L 1 [P 14194])),
    (14194, (L 2 [P 12248, o])),
    (12248, (L 8 y55)),
    (12238, (L 2 [t, m 12237])),
    b141,
    (12538, (L 0 [])),
    (13016, (L 3 [o, s 1 97, i 1])),
    (13494, (L 3 [o, s 1 97, i 2])),
    (13972, (L 3 [o, s 1 97, i 3])),
    (13893, (L 5 [t, m 13903, m 13904, m 13905, m 13906])),
    b142,
    (12977, (L 9 y3)),
    (13455, (L 9 y4)),
    (13933, (L 9 y5)),
    b143,
    (13905, (.map 0 [] 0)),
    b144,
    b145,
    b146,
    (12936, (L 20 y0)),
    (13414, (L 20 y1)),
    (13892, (L 20 y2)),
    b147,
    b103,
    b148,
    (14779, (L 1 [o])),
    b149,
    (14782, (L 1 [i 3])),
    (14922, (L 1 [(.fn (.func 26) [P 104] [])])),
    (14783, (L 2 [t, m 14788])),
    b150,
    (14784, (L 0 [])),
    (14785, (L 3 [o, s 1 97, i 1])),
    (14786, (L 3 [o, s 1 97, i 2])),
    (14787, (L 3 [o, s 1 97, i 3])),
    (14789, (L 1 [S 14790 3 0 4 4 6])),
    b151,
    (14791, (L 0 [])),
    (14792, (L 3 [o, s 1 97, i 1])),
    (14793, (L 3 [o, s 1 97, i 2])),
    (14794, (L 3 [o, s 1 97, i 3])),
    (14912, (L 2 [t, m 14917])),
    b152,
    (14913, (L 0 [])),
    (14914, (L 3 [o, s 1 97, i 1])),
    (14915, (L 3 [o, s 1 97, i 2])),
    (14916, (L 3 [o, s 1 97, i 3])),
    (14923, (L 1 [P 14194])),
    (14924, (.dfr 13267)),
    (14928, (L 2 [o, s 1 97])),
    (14927, (.cells 0 (.lst 4 [o, s 1 97, o, s 1 98]) 0 0 1 1 false false)),
    (14795, (.dfr 13157)),
    (11625, (L 2 [P 9732, o])),
    (9732, (L 8 y16)),
    (9722, (L 2 [t, m 9721])),
    b95,
    (10022, (L 0 [])),
    (10500, (L 3 [o, s 1 97, i 1])),
    (10978, (L 3 [o, s 1 97, i 2])),
    (11456, (L 3 [o, s 1 97, i 3])),
    (11377, (L 5 y30)),
    b96,
    (10461, (L 9 y3)),
    (10939, (L 9 y4)),
    (11417, (L 9 y5)),
    b97,
    (11389, (.map 0 [] 0)),
    b98,
    b99,
    b100,
    (10420, (L 20 y0)),
    (10898, (L 20 y1)),
    (11376, (L 20 y2)),
    b140,
    b58,
    (154, (L 2 [o, s 1 97])),
    (155, (L 2 [o, s 1 98])),
    (2060, (L 7 [o, s 1 97, i 3, i 1, i 1, i 1, o])),
    (11626, (L 4 [o, o, i 74, i 13])),
    (151, (L 2 [P 138, o])),
    (138, (L 8 y10)),
    (128, (L 2 [t, m 127])),
    b30,
    (1968, (L 3 [o, s 1 97, i 1])),
    (3281, (L 3 [o, s 1 97, i 2])),
    (4664, (L 3 [o, s 1 97, i 3])),
    (4585, (L 5 [t, m 4595, m 4596, m 4597, m 4598])),
    b31,
    (1929, (L 9 y3)),
    (3242, (L 9 y4)),
    (4625, (L 9 y5)),
    b32,
    (4597, (.map 0 [] 0)),
    b33,
    b34,
    b35,
    (1888, (L 20 y0)),
    (3201, (L 20 y1)),
    (4584, (L 20 y2)),
    b36,
    b37,
    (755, (L 6 [N, i 1, s 1 99, i 1, i 1, e])),
    (2059, (L 6 [N, i 1, s 1 99, i 1, i 2, e])),
    (3372, (L 3 [o, s 1 97, i 3])),
    (3441, (L 6 [N, i 1, s 1 99, i 1, i 3, e])),
    (1, (L 8 [i 100, o, N, N, N, N, o, N])),
    (18, (L 4 [o, o, o, o])),
    (25, (L 7 [o, e, o, o, o, o, o])),
    (32, (L 7 [o, e, o, o, o, o, o])),
    (38, (L 8 y9)),
    (40, (B 3 66051)),
    (36, (B 3 66051)),
    (102, (L 4 [o, o, o, o])),
    (34, (.cells 0 (.byt 3 66051) 0 0 0 0 false false))]

open ckS in
/-- A state on the way. -/
noncomputable def ck49 : Ck where
  cur := ⟨233, (v [(0, S 16301 0 13 143 143 1), (2, P 16365), (3, o), (4, o), (5, i 4), (6, (u32 1973162165)), (7, S 16301 0 13 143 143 1), (8, i 143), (9, f), (11, S 16301 0 13 143 143 1), (12, p 16301 0 14), (13, (u8 0)), (14, o), (15, o), (16, S 16301 0 13 143 143 1), (17, p 16301 0 15), (18, (u8 0)), (19, o), (20, o), (21, o), (22, S 16301 0 13 143 143 1), (23, p 16301 0 16), (24, (u8 0)), (25, o), (26, o), (27, o), (28, S 16301 0 13 143 143 1), (29, p 16301 0 17), (30, (u8 4)), (31, i 4), (32, i 4), (33, f), (34, i 4), (35, f), (37, f), (38, S 16301 0 13 143 143 1), (39, i 143), (40, i 4), (41, i 13), (42, f), (44, S 16301 0 13 143 143 1), (45, p 16301 0 18), (46, (u8 117)), (47, (u32 117)), (48, (u32 1962934272)), (49, S 16301 0 13 143 143 1), (50, p 16301 0 19), (51, (u8 156)), (52, (u32 156)), (53, (u32 10223616)), (54, (u32 1973157888)), (55, S 16301 0 13 143 143 1), (56, p 16301 0 20), (57, (u8 16)), (58, (u32 16)), (59, (u32 4096)), (60, (u32 1973161984)), (61, S 16301 0 13 143 143 1), (62, p 16301 0 21), (63, (u8 181)), (64, (u32 181)), (65, (u32 1973162165)), (66, S 16301 0 13 143 143 1), (67, S 16301 0 13 5 143 1), (68, S 16301 0 13 143 143 1), (69, i 4), (70, i 13), (71, S 16301 0 22 4 134 1), (72, (.sl (q 16366) 0 0 2 2 true 1)), (73, (u32 1973162165)), (74, (u32 1973162165)), (75, f)]), [.code (zz 233 [1, 1, 1, 1, 1, 0, 1]), .code (zz 233 [1, 1, 1, 1, 1, 1])], [], .run, false, none⟩
  callers := [⟨232, (v [(0, (.yield (q 16310))), (1, P 16307), (2, P 16308), (4, i 13), (5, P 16317), (6, i 13), (7, o), (8, i 13), (9, S 16301 0 0 156 156 1), (10, i 156), (11, t), (12, (.tup [(a [i 4, S 16316 0 0 4 4 1]), i 13, o])), (13, S 16301 0 0 156 156 1), (14, i 13), (15, S 16301 0 13 143 143 1), (16, (.tup [(a [i 4, S 16316 0 0 4 4 1]), i 13, o])), (17, (a [i 4, S 16316 0 0 4 4 1])), (18, i 13), (19, o), (20, o), (21, f), (25, (.yield (q 16310))), (26, o), (27, (a [i 4, S 16316 0 0 4 4 1])), (28, t), (29, f), (30, o), (31, i 13), (32, i 13)]), [.ops (oAt (zz 232 [1, 1, 1, 1, 1, 1, 1, 0]) 3), .code (zz 232 [1, 1, 1, 1, 1, 1, 1, 1]), .inBlock 1, .inLoop (zz 232 [1, 1, 1, 1, 1]), .inBlock 0, .inScope (zz 232 [1])], [], .run, false, none⟩, f16, f17, f18, f19, f15, f0]
  next := (q 16369)
  ser := 14542
  bs := w [b153,
    (16365, (L 2 [o, N])),
    (16366, (L 2 [S 16301 0 13 5 143 1, S 16301 0 22 4 134 1])),
    (16310, (.loop 14489 .ready none 157 (v [(0, (.yield (q 16304))), (1, P 16302), (2, P 16305), (3, P 16306), (6, S 16301 0 0 156 156 1), (7, (.fn (.func 232) [] [P 16307, P 16308]))]) [(q 8), (q 9)] (zz 157 [1, 1, 1, 1, 0]) (zz 157 [1, 1, 1, 1, 1]) (q 16309))),
    (16304, (.loop 14483 .ready none 49 (v [(0, P 104), (2, M), (3, o), (4, P 16296), (5, S 16298 0 0 156 156 1), (6, o), (7, P 16299), (12, P 104), (13, P 15918), (14, f), (15, P 16285), (16, P 16290), (17, m 16291), (18, m 16292), (19, (a [P 16285, P 16290, m 16291, m 16292])), (20, P 104), (21, m 16293), (22, m 16294), (23, (a y36)), (24, P 16295), (25, (.tup [S 16298 0 0 156 156 1, o])), (26, P 104), (27, P 104), (28, o), (29, (.tup [S 16298 0 0 156 156 1, o])), (30, S 16298 0 0 156 156 1), (31, o), (32, S 16298 0 0 156 156 1), (33, (.fn (.func 157) [] [P 16302]))]) [(q 34), (q 35)] (zz 49 [1, 1, 1, 1, 1, 1, 1, 0, 1, 1, 0]) (zz 49 [1, 1, 1, 1, 1, 1, 1, 0, 1, 1, 1]) (q 16303))),
    (104, (L 8 y33)),
    b154,
    b101,
    b155,
    (435, (B 13 316912650135562894202732896513)),
    (582, (B 16 2658455993899308755378002830995489024)),
    (735, (B 16 3987683989750119525917084813969416449)),
    (1329, (B 13 316912650136765236195207766274)),
    b0,
    b1,
    (2026, (B 16 3987683989731756852014800065179771138)),
    (2642, (B 13 316912650142391776956515442947)),
    b2,
    b3,
    (3339, (B 16 3987683989632802078961797899715961091)),
    (3436, (B 16 3987683989545847660814512321527374083)),
    (4025, (B 13 316912650139318993637393654273)),
    b6,
    b7,
    (4722, (B 16 3987683989755313683660252679566877185)),
    (8344, (B 13 316912650142391776956515442947)),
    (8388, (B 13 316912650139318993637393654273)),
    (8495, (B 16 2658455993899308755378002830995489024)),
    b52,
    b53,
    b54,
    b55,
    b56,
    b57,
    (9110, (B 16 3987683989632802078961797899715961091)),
    (9166, (B 16 3987683989755313683660252679566877185)),
    (11667, (B 12 1547425049328937464389173602)),
    (14966, (B 13 316912650142391776956515442947)),
    (15010, (B 13 316912650139318993637393654273)),
    (15108, (B 16 2658455993899308755378002830995489024)),
    b156,
    b157,
    b158,
    b159,
    (15537, (B 16 3987683989632802078961797899715961091)),
    (16296, (L 1 [P 16295])),
    (16295, (L 8 y36)),
    (16285, (L 2 [t, m 16284])),
    (16284, (.map 0 [] 0)),
    (16290, (L 5 [t, m 16286, m 16287, m 16288, m 16289])),
    (16286, (.map 0 [] 0)),
    (16287, (.map 0 [] 0)),
    (16288, (.map 0 [] 0)),
    (16289, (.map 0 [] 0)),
    (16291, (.map 0 [] 0)),
    (16292, (.map 0 [] 0)),
    (16293, (.map 0 [] 0)),
    (16294, (.map 0 [((a [o, s 1 97]), i 3, 0)] 1)),
    b160,
    (16299, (L 1 [i 13])),
    b161,
    b162,
    b163,
    b164,
    (15931, (B 13 316912650135562894202732896513)),
    (15942, (B 16 2658455993899308755378002830995489024)),
    (15951, (B 16 3987683989750119525917084813969416449)),
    (15960, (B 13 316912650136765236195207766274)),
    b165,
    b166,
    (15987, (B 16 3987683989731756852014800065179771138)),
    (15996, (B 13 316912650142391776956515442947)),
    b167,
    b168,
    (16023, (B 16 3987683989632802078961797899715961091)),
    (16032, (B 16 3987683989545847660814512321527374083)),
    (16041, (B 13 316912650139318993637393654273)),
    b169,
    b170,
    (16068, (B 16 3987683989755313683660252679566877185)),
    (16084, (B 13 316912650142391776956515442947)),
    (16094, (B 13 316912650139318993637393654273)),
    (16103, (B 16 2658455993899308755378002830995489024)),
    b171,
    b172,
    b173,
    b174,
    b175,
    b176,
    (16166, (B 16 3987683989632802078961797899715961091)),
    (16175, (B 16 3987683989755313683660252679566877185)),
    (16191, (B 12 1547425049328937464389173602)),
    (16207, (B 13 316912650142391776956515442947)),
    (16217, (B 13 316912650139318993637393654273)),
    (16226, (B 16 2658455993899308755378002830995489024)),
    b177,
    b178,
    b179,
    b180,
    (16271, (B 16 3987683989632802078961797899715961091)),
    (16302, (L 1 [S 16301 0 0 156 156 1])),
    (16303, (.dfr 14482)),
    (16305, (L 1 [(.yield (q 16304))])),
    (16306, (L 1 [o])),
    (16307, (L 1 [S 16301 0 0 156 156 1])),
    (16308, (L 1 [P 16306])),
    (16309, (.dfr 14488)),
    (16317, (L 2 [i 4, S 16316 0 0 4 4 1])),
    (16316, (B 4 90371)),
    b181,
    b182,
    b183,
    b184,
    (15562, (B 13 316912650135562894202732896513)),
    (15573, (B 16 2658455993899308755378002830995489024)),
    (15582, (B 16 3987683989750119525917084813969416449)),
    (15591, (B 13 316912650136765236195207766274)),
    b185,
    b186,
    (15618, (B 16 3987683989731756852014800065179771138)),
    (15627, (B 13 316912650142391776956515442947)),
    b187,
    b188,
    (15654, (B 16 3987683989632802078961797899715961091)),
    (15663, (B 16 3987683989545847660814512321527374083)),
    (15672, (B 13 316912650139318993637393654273)),
    b189,
    b190,
    (15699, (B 16 3987683989755313683660252679566877185)),
    (15715, (B 13 316912650142391776956515442947)),
    (15725, (B 13 316912650139318993637393654273)),
    (15734, (B 16 2658455993899308755378002830995489024)),
    b191,
    b192,
    b193,
    b194,
    b195,
    b196,
    (15797, (B 16 3987683989632802078961797899715961091)),
    (15806, (B 16 3987683989755313683660252679566877185)),
    (15822, (B 12 1547425049328937464389173602)),
    (15838, (B 13 316912650142391776956515442947)),
    (15848, (B 13 316912650139318993637393654273)),
    (15857, (B 16 2658455993899308755378002830995489024)),
    b197,
    b198,
    b199,
    b200,
    (15902, (B 16 3987683989632802078961797899715961091)),
    (11672, (L 4 [o, o, o, o])),
    (14195, (L 1 [P 14194])),
    (14194, (L 2 [P 12248, o])),
    (12248, (L 8 y55)),
    (12238, (L 2 [t, m 12237])),
    b141,
    (12538, (L 0 [])),
    (13016, (L 3 [o, s 1 97, i 1])),
    (13494, (L 3 [o, s 1 97, i 2])),
    (13972, (L 3 [o, s 1 97, i 3])),
    (13893, (L 5 [t, m 13903, m 13904, m 13905, m 13906])),
    b142,
    (12977, (L 9 y3)),
    (13455, (L 9 y4)),
    (13933, (L 9 y5)),
    b143,
    (13905, (.map 0 [] 0)),
    b144,
    b145,
    b146,
    (12936, (L 20 y0)),
    (13414, (L 20 y1)),
    (13892, (L 20 y2)),
    b147,
    b103,
    b148,
    (14779, (L 1 [o])),
    b149,
    (14782, (L 1 [i 3])),
    (14922, (L 1 [(.fn (.func 26) [P 104] [])])),
    (14783, (L 2 [t, m 14788])),
    b150,
    (14784, (L 0 [])),
    (14785, (L 3 [o, s 1 97, i 1])),
    (14786, (L 3 [o, s 1 97, i 2])),
    (14787, (L 3 [o, s 1 97, i 3])),
    (14789, (L 1 [S 14790 3 0 4 4 6])),
    b151,
    (14791, (L 0 [])),
    (14792, (L 3 [o, s 1 97, i 1])),
    (14793, (L 3 [o, s 1 97, i 2])),
    (14794, (L 3 [o, s 1 97, i 3])),
    (14912, (L 2 [t, m 14917])),
    b152,
    (14913, (L 0 [])),
    (14914, (L 3 [o, s 1 97, i 1])),
    (14915, (L 3 [o, s 1 97, i 2])),
    (14916, (L 3 [o, s 1 97, i 3])),
    (14923, (L 1 [P 14194])),
    (14924, (.dfr 13267)),
    (14795, (.dfr 13157)),
    (11625, (L 2 [P 9732, o])),
    (9732, (L 8 y16)),
    (9722, (L 2 [t, m 9721])),
    b95,
    (10022, (L 0 [])),
    (10500, (L 3 [o, s 1 97, i 1])),
    (10978, (L 3 [o, s 1 97, i 2])),
    (11456, (L 3 [o, s 1 97, i 3])),
    (11377, (L 5 y30)),
    b96,
    (10461, (L 9 y3)),
    (10939, (L 9 y4)),
    (11417, (L 9 y5)),
    b97,
    (11389, (.map 0 [] 0)),
    b98,
    b99,
    b100,
    (10420, (L 20 y0)),
    (10898, (L 20 y1)),
    (11376, (L 20 y2)),
    b140,
    b58,
    (154, (L 2 [o, s 1 97])),
    (155, (L 2 [o, s 1 98])),
    (2060, (L 7 [o, s 1 97, i 3, i 1, i 1, i 1, o])),
    (11626, (L 4 [o, o, i 74, i 13])),
    (151, (L 2 [P 138, o])),
    (138, (L 8 y10)),
    (128, (L 2 [t, m 127])),
    b30,
    (1968, (L 3 [o, s 1 97, i 1])),
    (3281, (L 3 [o, s 1 97, i 2])),
    (4664, (L 3 [o, s 1 97, i 3])),
    (4585, (L 5 [t, m 4595, m 4596, m 4597, m 4598])),
    b31,
    (1929, (L 9 y3)),
    (3242, (L 9 y4)),
    (4625, (L 9 y5)),
    b32,
    (4597, (.map 0 [] 0)),
    b33,
    b34,
    b35,
    (1888, (L 20 y0)),
    (3201, (L 20 y1)),
    (4584, (L 20 y2)),
    b36,
    b37,
    (755, (L 6 [N, i 1, s 1 99, i 1, i 1, e])),
    (2059, (L 6 [N, i 1, s 1 99, i 1, i 2, e])),
    (3372, (L 3 [o, s 1 97, i 3])),
    (3441, (L 6 [N, i 1, s 1 99, i 1, i 3, e])),
    (1, (L 8 [i 100, o, N, N, N, N, o, N])),
    (18, (L 4 [o, o, o, o])),
    (25, (L 7 [o, e, o, o, o, o, o])),
    (32, (L 7 [o, e, o, o, o, o, o])),
    (38, (L 8 y9)),
    (40, (B 3 66051)),
    (36, (B 3 66051)),
    (102, (L 4 [o, o, o, o])),
    (34, (.cells 0 (.byt 3 66051) 0 0 0 0 false false))]
end Go.Proofs.YthjoaempffkanaaGreatDoor.Am
