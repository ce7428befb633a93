/- aes: the table, sums, products, a column mixed. -/
import Derived.Test.YtifoaokodgbhjaaSh
namespace Go.Pv
open Go Go.Proofs
def paTable : List (Nat × Nat × Ex) := [(0, (1, (.c (.int .u8 99)))), (1, (1, (.c (.int .u8 124)))), (2, (1, (.c (.int .u8 119)))), (3, (1, (.c (.int .u8 123)))), (4, (1, (.c (.int .u8 242)))), (5, (1, (.c (.int .u8 107)))), (6, (1, (.c (.int .u8 111)))), (7, (1, (.c (.int .u8 197)))), (8, (1, (.c (.int .u8 48)))), (9, (1, (.c (.int .u8 1)))), (10, (1, (.c (.int .u8 103)))), (11, (1, (.c (.int .u8 43)))), (12, (1, (.c (.int .u8 254)))), (13, (1, (.c (.int .u8 215)))), (14, (1, (.c (.int .u8 171)))), (15, (1, (.c (.int .u8 118)))), (16, (1, (.c (.int .u8 202)))), (17, (1, (.c (.int .u8 130)))), (18, (1, (.c (.int .u8 201)))), (19, (1, (.c (.int .u8 125)))), (20, (1, (.c (.int .u8 250)))), (21, (1, (.c (.int .u8 89)))), (22, (1, (.c (.int .u8 71)))), (23, (1, (.c (.int .u8 240)))), (24, (1, (.c (.int .u8 173)))), (25, (1, (.c (.int .u8 212)))), (26, (1, (.c (.int .u8 162)))), (27, (1, (.c (.int .u8 175)))), (28, (1, (.c (.int .u8 156)))), (29, (1, (.c (.int .u8 164)))), (30, (1, (.c (.int .u8 114)))), (31, (1, (.c (.int .u8 192)))), (32, (1, (.c (.int .u8 183)))), (33, (1, (.c (.int .u8 253)))), (34, (1, (.c (.int .u8 147)))), (35, (1, (.c (.int .u8 38)))), (36, (1, (.c (.int .u8 54)))), (37, (1, (.c (.int .u8 63)))), (38, (1, (.c (.int .u8 247)))), (39, (1, (.c (.int .u8 204)))), (40, (1, (.c (.int .u8 52)))), (41, (1, (.c (.int .u8 165)))), (42, (1, (.c (.int .u8 229)))), (43, (1, (.c (.int .u8 241)))), (44, (1, (.c (.int .u8 113)))), (45, (1, (.c (.int .u8 216)))), (46, (1, (.c (.int .u8 49)))), (47, (1, (.c (.int .u8 21)))), (48, (1, (.c (.int .u8 4)))), (49, (1, (.c (.int .u8 199)))), (50, (1, (.c (.int .u8 35)))), (51, (1, (.c (.int .u8 195)))), (52, (1, (.c (.int .u8 24)))), (53, (1, (.c (.int .u8 150)))), (54, (1, (.c (.int .u8 5)))), (55, (1, (.c (.int .u8 154)))), (56, (1, (.c (.int .u8 7)))), (57, (1, (.c (.int .u8 18)))), (58, (1, (.c (.int .u8 128)))), (59, (1, (.c (.int .u8 226)))), (60, (1, (.c (.int .u8 235)))), (61, (1, (.c (.int .u8 39)))), (62, (1, (.c (.int .u8 178)))), (63, (1, (.c (.int .u8 117)))), (64, (1, (.c (.int .u8 9)))), (65, (1, (.c (.int .u8 131)))), (66, (1, (.c (.int .u8 44)))), (67, (1, (.c (.int .u8 26)))), (68, (1, (.c (.int .u8 27)))), (69, (1, (.c (.int .u8 110)))), (70, (1, (.c (.int .u8 90)))), (71, (1, (.c (.int .u8 160)))), (72, (1, (.c (.int .u8 82)))), (73, (1, (.c (.int .u8 59)))), (74, (1, (.c (.int .u8 214)))), (75, (1, (.c (.int .u8 179)))), (76, (1, (.c (.int .u8 41)))), (77, (1, (.c (.int .u8 227)))), (78, (1, (.c (.int .u8 47)))), (79, (1, (.c (.int .u8 132)))), (80, (1, (.c (.int .u8 83)))), (81, (1, (.c (.int .u8 209)))), (82, (1, (.c (.int .u8 0)))), (83, (1, (.c (.int .u8 237)))), (84, (1, (.c (.int .u8 32)))), (85, (1, (.c (.int .u8 252)))), (86, (1, (.c (.int .u8 177)))), (87, (1, (.c (.int .u8 91)))), (88, (1, (.c (.int .u8 106)))), (89, (1, (.c (.int .u8 203)))), (90, (1, (.c (.int .u8 190)))), (91, (1, (.c (.int .u8 57)))), (92, (1, (.c (.int .u8 74)))), (93, (1, (.c (.int .u8 76)))), (94, (1, (.c (.int .u8 88)))), (95, (1, (.c (.int .u8 207)))), (96, (1, (.c (.int .u8 208)))), (97, (1, (.c (.int .u8 239)))), (98, (1, (.c (.int .u8 170)))), (99, (1, (.c (.int .u8 251)))), (100, (1, (.c (.int .u8 67)))), (101, (1, (.c (.int .u8 77)))), (102, (1, (.c (.int .u8 51)))), (103, (1, (.c (.int .u8 133)))), (104, (1, (.c (.int .u8 69)))), (105, (1, (.c (.int .u8 249)))), (106, (1, (.c (.int .u8 2)))), (107, (1, (.c (.int .u8 127)))), (108, (1, (.c (.int .u8 80)))), (109, (1, (.c (.int .u8 60)))), (110, (1, (.c (.int .u8 159)))), (111, (1, (.c (.int .u8 168)))), (112, (1, (.c (.int .u8 81)))), (113, (1, (.c (.int .u8 163)))), (114, (1, (.c (.int .u8 64)))), (115, (1, (.c (.int .u8 143)))), (116, (1, (.c (.int .u8 146)))), (117, (1, (.c (.int .u8 157)))), (118, (1, (.c (.int .u8 56)))), (119, (1, (.c (.int .u8 245)))), (120, (1, (.c (.int .u8 188)))), (121, (1, (.c (.int .u8 182)))), (122, (1, (.c (.int .u8 218)))), (123, (1, (.c (.int .u8 33)))), (124, (1, (.c (.int .u8 16)))), (125, (1, (.c (.int .u8 255)))), (126, (1, (.c (.int .u8 243)))), (127, (1, (.c (.int .u8 210)))), (128, (1, (.c (.int .u8 205)))), (129, (1, (.c (.int .u8 12)))), (130, (1, (.c (.int .u8 19)))), (131, (1, (.c (.int .u8 236)))), (132, (1, (.c (.int .u8 95)))), (133, (1, (.c (.int .u8 151)))), (134, (1, (.c (.int .u8 68)))), (135, (1, (.c (.int .u8 23)))), (136, (1, (.c (.int .u8 196)))), (137, (1, (.c (.int .u8 167)))), (138, (1, (.c (.int .u8 126)))), (139, (1, (.c (.int .u8 61)))), (140, (1, (.c (.int .u8 100)))), (141, (1, (.c (.int .u8 93)))), (142, (1, (.c (.int .u8 25)))), (143, (1, (.c (.int .u8 115)))), (144, (1, (.c (.int .u8 96)))), (145, (1, (.c (.int .u8 129)))), (146, (1, (.c (.int .u8 79)))), (147, (1, (.c (.int .u8 220)))), (148, (1, (.c (.int .u8 34)))), (149, (1, (.c (.int .u8 42)))), (150, (1, (.c (.int .u8 144)))), (151, (1, (.c (.int .u8 136)))), (152, (1, (.c (.int .u8 70)))), (153, (1, (.c (.int .u8 238)))), (154, (1, (.c (.int .u8 184)))), (155, (1, (.c (.int .u8 20)))), (156, (1, (.c (.int .u8 222)))), (157, (1, (.c (.int .u8 94)))), (158, (1, (.c (.int .u8 11)))), (159, (1, (.c (.int .u8 219)))), (160, (1, (.c (.int .u8 224)))), (161, (1, (.c (.int .u8 50)))), (162, (1, (.c (.int .u8 58)))), (163, (1, (.c (.int .u8 10)))), (164, (1, (.c (.int .u8 73)))), (165, (1, (.c (.int .u8 6)))), (166, (1, (.c (.int .u8 36)))), (167, (1, (.c (.int .u8 92)))), (168, (1, (.c (.int .u8 194)))), (169, (1, (.c (.int .u8 211)))), (170, (1, (.c (.int .u8 172)))), (171, (1, (.c (.int .u8 98)))), (172, (1, (.c (.int .u8 145)))), (173, (1, (.c (.int .u8 149)))), (174, (1, (.c (.int .u8 228)))), (175, (1, (.c (.int .u8 121)))), (176, (1, (.c (.int .u8 231)))), (177, (1, (.c (.int .u8 200)))), (178, (1, (.c (.int .u8 55)))), (179, (1, (.c (.int .u8 109)))), (180, (1, (.c (.int .u8 141)))), (181, (1, (.c (.int .u8 213)))), (182, (1, (.c (.int .u8 78)))), (183, (1, (.c (.int .u8 169)))), (184, (1, (.c (.int .u8 108)))), (185, (1, (.c (.int .u8 86)))), (186, (1, (.c (.int .u8 244)))), (187, (1, (.c (.int .u8 234)))), (188, (1, (.c (.int .u8 101)))), (189, (1, (.c (.int .u8 122)))), (190, (1, (.c (.int .u8 174)))), (191, (1, (.c (.int .u8 8)))), (192, (1, (.c (.int .u8 186)))), (193, (1, (.c (.int .u8 120)))), (194, (1, (.c (.int .u8 37)))), (195, (1, (.c (.int .u8 46)))), (196, (1, (.c (.int .u8 28)))), (197, (1, (.c (.int .u8 166)))), (198, (1, (.c (.int .u8 180)))), (199, (1, (.c (.int .u8 198)))), (200, (1, (.c (.int .u8 232)))), (201, (1, (.c (.int .u8 221)))), (202, (1, (.c (.int .u8 116)))), (203, (1, (.c (.int .u8 31)))), (204, (1, (.c (.int .u8 75)))), (205, (1, (.c (.int .u8 189)))), (206, (1, (.c (.int .u8 139)))), (207, (1, (.c (.int .u8 138)))), (208, (1, (.c (.int .u8 112)))), (209, (1, (.c (.int .u8 62)))), (210, (1, (.c (.int .u8 181)))), (211, (1, (.c (.int .u8 102)))), (212, (1, (.c (.int .u8 72)))), (213, (1, (.c (.int .u8 3)))), (214, (1, (.c (.int .u8 246)))), (215, (1, (.c (.int .u8 14)))), (216, (1, (.c (.int .u8 97)))), (217, (1, (.c (.int .u8 53)))), (218, (1, (.c (.int .u8 87)))), (219, (1, (.c (.int .u8 185)))), (220, (1, (.c (.int .u8 134)))), (221, (1, (.c (.int .u8 193)))), (222, (1, (.c (.int .u8 29)))), (223, (1, (.c (.int .u8 158)))), (224, (1, (.c (.int .u8 225)))), (225, (1, (.c (.int .u8 248)))), (226, (1, (.c (.int .u8 152)))), (227, (1, (.c (.int .u8 17)))), (228, (1, (.c (.int .u8 105)))), (229, (1, (.c (.int .u8 217)))), (230, (1, (.c (.int .u8 142)))), (231, (1, (.c (.int .u8 148)))), (232, (1, (.c (.int .u8 155)))), (233, (1, (.c (.int .u8 30)))), (234, (1, (.c (.int .u8 135)))), (235, (1, (.c (.int .u8 233)))), (236, (1, (.c (.int .u8 206)))), (237, (1, (.c (.int .u8 85)))), (238, (1, (.c (.int .u8 40)))), (239, (1, (.c (.int .u8 223)))), (240, (1, (.c (.int .u8 140)))), (241, (1, (.c (.int .u8 161)))), (242, (1, (.c (.int .u8 137)))), (243, (1, (.c (.int .u8 13)))), (244, (1, (.c (.int .u8 191)))), (245, (1, (.c (.int .u8 230)))), (246, (1, (.c (.int .u8 66)))), (247, (1, (.c (.int .u8 104)))), (248, (1, (.c (.int .u8 65)))), (249, (1, (.c (.int .u8 153)))), (250, (1, (.c (.int .u8 45)))), (251, (1, (.c (.int .u8 15)))), (252, (1, (.c (.int .u8 176)))), (253, (1, (.c (.int .u8 84)))), (254, (1, (.c (.int .u8 187)))), (255, (1, (.c (.int .u8 22))))]
def vaTable : List Int := [99, 124, 119, 123, 242, 107, 111, 197, 48, 1, 103, 43, 254, 215, 171, 118, 202, 130, 201, 125, 250, 89, 71, 240, 173, 212, 162, 175, 156, 164, 114, 192, 183, 253, 147, 38, 54, 63, 247, 204, 52, 165, 229, 241, 113, 216, 49, 21, 4, 199, 35, 195, 24, 150, 5, 154, 7, 18, 128, 226, 235, 39, 178, 117, 9, 131, 44, 26, 27, 110, 90, 160, 82, 59, 214, 179, 41, 227, 47, 132, 83, 209, 0, 237, 32, 252, 177, 91, 106, 203, 190, 57, 74, 76, 88, 207, 208, 239, 170, 251, 67, 77, 51, 133, 69, 249, 2, 127, 80, 60, 159, 168, 81, 163, 64, 143, 146, 157, 56, 245, 188, 182, 218, 33, 16, 255, 243, 210, 205, 12, 19, 236, 95, 151, 68, 23, 196, 167, 126, 61, 100, 93, 25, 115, 96, 129, 79, 220, 34, 42, 144, 136, 70, 238, 184, 20, 222, 94, 11, 219, 224, 50, 58, 10, 73, 6, 36, 92, 194, 211, 172, 98, 145, 149, 228, 121, 231, 200, 55, 109, 141, 213, 78, 169, 108, 86, 244, 234, 101, 122, 174, 8, 186, 120, 37, 46, 28, 166, 180, 198, 232, 221, 116, 31, 75, 189, 139, 138, 112, 62, 181, 102, 72, 3, 246, 14, 97, 53, 87, 185, 134, 193, 29, 158, 225, 248, 152, 17, 105, 217, 142, 148, 155, 30, 135, 233, 206, 85, 40, 223, 140, 161, 137, 13, 191, 230, 66, 104, 65, 153, 45, 15, 176, 84, 187, 22]
def caTable : FnC := ⟨2, [(.a 0 256)], (.seq (.reg [(.mk (some 0) none (.al 166 [(.run .u8 256 (List.replicate 256 0))]))]) (.seq (.reg [(.mk (some 1) none (.bld [(.run .u8 256 (List.replicate 256 0))] paTable)), (.mk none none (.sta (.t 0) (.t 1) 256))]) .ret))⟩
theorem okaTable : FnOk Try.prog 89 caTable := fnOk_mk Try.f89 (by kernel_rfl) (by kernel_rfl) (by kernel_rfl) (by kernel_rfl) (by kernel_rfl)
def laAddn0 : IC := (.seq (.reg [(.mk (some 8) none (.bin .lss (.t 7) (.t 6)))]) (.seq (.cond (.t 8) .skip (.exit 0)) (.seq (.block 1 (.seq (.reg [(.mk (some 9) none (.ias 1 (.t 5) (.t 7))), (.mk (some 10) none (.ld (.t 9))), (.mk (some 4) none (.mv (.t 10)))]) (.reg [(.mk (some 11) none (.mv (.t 2))), (.mk (some 12) none (.mv (.t 4))), (.mk (some 13) none (.bin .xor (.t 11) (.t 12))), (.mk (some 2) none (.mv (.t 13)))]))) (.reg [(.mk (some 14) none (.bin .add (.t 7) (.c (.int .i64 1)))), (.mk (some 7) none (.mv (.t 14)))]))))
def taAddn1 : IC := (.seq (.reg [(.mk (some 15) none (.mv (.t 2))), (.mk (some 2) none (.mv (.t 15)))]) .ret)
def caAdd : FnC := ⟨16, [(.t 2)], (.seq (.reg [(.mk (some 2) none (.mv (.c (.int .u8 0))))]) (.seq (.seq (.reg [(.mk (some 5) none (.mv (.t 0))), (.mk (some 6) none (.len (.t 5))), (.mk (some 7) none (.mv (.c (.int .i64 0))))]) (.block 0 (.loop laAddn0))) taAddn1))⟩
theorem okaAdd : FnOk Try.prog 90 caAdd := fnOk_mk Try.f90 (by kernel_rfl) (by kernel_rfl) (by kernel_rfl) (by kernel_rfl) (by kernel_rfl)
def laMuln0 : IC := (.seq (.seq (.reg [(.mk (some 6) none (.mv (.t 1))), (.mk (some 7) none (.bin .gtr (.t 6) (.c (.int .u8 0))))]) (.cond (.t 7) .skip (.exit 0))) (.seq (.block 1 (.seq (.seq (.reg [(.mk (some 10) none (.mv (.t 1))), (.mk (some 11) none (.bin .and (.t 10) (.c (.int .u8 1)))), (.mk (some 12) none (.bin .eql (.t 11) (.c (.int .u8 1))))]) (.cond (.t 12) (.reg [(.mk (some 13) none (.mv (.t 4))), (.mk (some 14) none (.mv (.t 0))), (.mk (some 15) none (.bin .xor (.t 13) (.t 14))), (.mk (some 4) none (.mv (.t 15)))]) .skip)) (.seq (.reg [(.mk (some 16) none (.mv (.t 0))), (.mk (some 17) none (.bin .shr (.t 16) (.c (.int .u64 7)))), (.mk (some 5) none (.mv (.t 17)))]) (.reg [(.mk (some 18) none (.mv (.t 0))), (.mk (some 19) none (.bin .shl (.t 18) (.c (.int .u64 1)))), (.mk (some 20) none (.mv (.t 5))), (.mk (some 21) none (.bin .mul (.t 20) (.c (.int .u8 27)))), (.mk (some 22) none (.bin .xor (.t 19) (.t 21))), (.mk (some 0) none (.mv (.t 22)))])))) (.reg [(.mk (some 8) none (.mv (.t 1))), (.mk (some 9) none (.bin .shr (.t 8) (.c (.int .u64 1)))), (.mk (some 1) none (.mv (.t 9)))])))
def taMuln1 : IC := (.seq (.reg [(.mk (some 23) none (.mv (.t 4))), (.mk (some 4) none (.mv (.t 23)))]) .ret)
def caMul : FnC := ⟨24, [(.t 4)], (.seq (.reg [(.mk (some 4) none (.mv (.c (.int .u8 0))))]) (.seq (.block 0 (.loop laMuln0)) taMuln1))⟩
theorem okaMul : FnOk Try.prog 91 caMul := fnOk_mk Try.f91 (by kernel_rfl) (by kernel_rfl) (by kernel_rfl) (by kernel_rfl) (by kernel_rfl)
def laMixn0 : IC := (.seq (.reg [(.mk (some 9) none (.bin .lss (.t 8) (.c (.int .i64 4))))]) (.seq (.cond (.t 9) .skip (.exit 0)) (.seq (.block 1 (.seq (.reg [(.mk (some 10) none (.mv (.t 8))), (.mk (some 3) none (.mv (.t 10)))]) (.seq (.dreg (.tk 0 (.mk (some 11) none (.mv (.t 3))) (.tk 1 (.mk (some 12) none (.iaa 4 1 (.t 1) (.t 11))) (.tk 2 (.mk (some 13) none (.ld (.t 12))) (.tk 3 (.mk (some 14) none (.mv (.t 3))) (.tk 4 (.mk (some 15) none (.bin .add (.t 14) (.c (.int .i64 1)))) (.tk 5 (.mk (some 16) none (.bin .rem (.t 15) (.c (.int .i64 4)))) (.tk 6 (.mk (some 17) none (.iaa 4 1 (.t 1) (.t 16))) (.tk 7 (.mk (some 18) none (.ld (.t 17))) (.tk 8 (.mk (some 19) none (.mv (.t 3))) (.tk 9 (.mk (some 20) none (.bin .add (.t 19) (.c (.int .i64 2)))) (.tk 10 (.mk (some 21) none (.bin .rem (.t 20) (.c (.int .i64 4)))) (.tk 11 (.mk (some 22) none (.iaa 4 1 (.t 1) (.t 21))) (.tk 12 (.mk (some 23) none (.ld (.t 22))) (.tk 13 (.mk (some 24) none (.mv (.t 3))) (.tk 14 (.mk (some 25) none (.bin .add (.t 24) (.c (.int .i64 3)))) (.tk 15 (.mk (some 26) none (.bin .rem (.t 25) (.c (.int .i64 4)))) (.tk 16 (.mk (some 27) none (.iaa 4 1 (.t 1) (.t 26))) (.tk 17 (.mk (some 28) none (.ld (.t 27))) (.one 18 (.mk (some 4) none (.mv (.t 13))) [] (.one 19 (.mk (some 5) none (.mv (.t 18))) [] (.one 20 (.mk (some 6) none (.mv (.t 23))) [] (.one 21 (.mk (some 7) none (.mv (.t 28))) [] .fin))))))))))))))))))))))) (.reg [(.mk (some 29) none (.mv (.t 3))), (.mk (some 30) none (.mv (.t 4))), (.mk (some 31) none (.call (.c (.fn 91 [])) [(.c (.int .u8 2)), (.t 30)])), (.mk (some 32) none (.mv (.t 5))), (.mk (some 33) none (.call (.c (.fn 91 [])) [(.c (.int .u8 3)), (.t 32)])), (.mk (some 34) none (.mv (.t 6))), (.mk (some 35) none (.mv (.t 7))), (.mk (some 36) none (.bsl 5 4 [(.run .u8 4 [0, 0, 0, 0])] [(0, (1, (.t 31))), (1, (1, (.t 33))), (2, (1, (.t 34))), (3, (1, (.t 35)))])), (.mk (some 37) none (.call (.c (.fn 90 [])) [(.t 36)])), (.mk (some 38) none (.iaa 4 1 (.t 2) (.t 29))), (.mk none none (.st (.t 38) (.t 37)))])))) (.reg [(.mk (some 39) none (.bin .add (.t 8) (.c (.int .i64 1)))), (.mk (some 8) none (.mv (.t 39)))]))))
def taMixn1 : IC := (.seq (.reg [(.mk (some 40) none (.lda (.t 2) 4)), (.mk none none (.sta (.t 2) (.t 40) 4))]) .ret)
def caMix : FnC := ⟨41, [(.a 2 4)], (.seq (.reg [(.mk (some 1) none (.bx 186 (.t 0))), (.mk (some 2) none (.al 186 [(.run .u8 4 [0, 0, 0, 0])]))]) (.seq (.seq (.reg [(.mk (some 8) none (.mv (.c (.int .i64 0))))]) (.block 0 (.loop laMixn0))) taMixn1))⟩
theorem okaMix : FnOk Try.prog 110 caMix := fnOk_mk Try.f110 (by kernel_rfl) (by kernel_rfl) (by kernel_rfl) (by kernel_rfl) (by kernel_rfl)


/-- The sum of bytes. -/
def xorF (l : List Int) : Int := l.foldl (bw .xor .u8) 0
theorem xorF_succ (l : List Int) (i : Nat) (h : i < l.length) : bw .xor .u8 (xorF (l.take i)) (l.getD i 0) = xorF (l.take (i + 1)) := by
  unfold xorF
  rw [List.take_add_one, List.foldl_append, List.getElem?_eq_getElem h]
  simp [List.getD_eq_getElem?_getD, List.getElem?_eq_getElem h]

theorem spaAdd (H : List SO) (t ty n : Nat) (l : List Int) (h : H[t]? = some (.cells [.run .u8 n l] ty 0 0)) (hl : l.length = n) (hn : n < 1000) : Spec Try.prog 90 [.sl t 0 n n] H fun v hs => v = .int .u8 (xorF l) ∧ hs = H := by
  refine spec_h okaAdd rfl (of_ble rfl) fun C hP hf hQ h0 hw hbd => ?_
  apply vc_ok 100
  simp only [FS.start, caAdd, paramsE, go_sem, reduceCtorEq, Nat.reduceLT, ↓reduceIte]
  refine ok_less (env' := [(7, .int .i64 (0 : Nat)), (6, .int .i64 n), (5, .sl t 0 n n), (2, .int .u8 (xorF (l.take 0)))]) ?_ (by simp only [envSub, go_sem, Nat.reduceEqDiff, ↓reduceIte] <;> rfl)
  refine up (p := fun i => Ok C [⟨90, none, 16, [.t 2], [(7, .int .i64 i), (6, .int .i64 n), (5, .sl t 0 n n), (2, .int .u8 (xorF (l.take i)))], [.c laAddn0, .lp laAddn0, .blk 0, .c taAddn1], []⟩] H) n ?_ ?_
  · intro i hi K
    have h1 : decide ((i : Int) < (n : Int)) = true := by simp; omega
    refine ok_head laAddn0.eq_1 (vc_ok 100 _ _ ?_)
    simp only [h1, h, go_sem, Nat.reduceEqDiff, Nat.reduceLT, ↓reduceIte]
    refine ⟨⟨by omega, by omega⟩, by omega, ok_less K ?_⟩
    simp only [envSub, w64s (show i + 1 < 9223372036854775808 by omega), xorF_succ l i (by omega), go_sem, Nat.reduceEqDiff, ↓reduceIte]
  · have h1 : decide ((n : Int) < (n : Int)) = false := by simp
    refine ok_head laAddn0.eq_1 (vc_ok 100 _ _ ?_)
    simp only [h1, hd taAddn1.eq_1, go_sem, Nat.reduceEqDiff, Nat.reduceLT, ↓reduceIte]
    refine fin00 hf hQ hw rfl ⟨?_, rfl⟩
    rw [List.take_of_length_le (by omega)]

/-- The product of two bytes. -/
def mulG : Nat → Int → Int → Int → Int
  | 0, _, _, r => r
  | k + 1, a, b, r => if b ≤ 0 then r else mulG k (bw .xor .u8 (IntKind.u8.wrap (a * 2 ^ 1)) (IntKind.u8.wrap (a.fdiv (2 ^ 7) * 27))) (b.fdiv (2 ^ 1)) (if bw .and .u8 b 1 = 1 then bw .xor .u8 r a else r)
def mulF (a b : Int) : Int := mulG b.toNat a b 0

theorem spaMul (H : List SO) (a b : Int) : Spec Try.prog 91 [.int .u8 a, .int .u8 b] H fun v hs => v = .int .u8 (mulF a b) ∧ hs = H := by
  refine spec_h okaMul rfl (of_ble rfl) fun C hP hf hQ h0 hw hbd => ?_
  apply vc_ok 100
  simp only [FS.start, caMul, paramsE, go_sem, Nat.reduceLT]
  refine ok_less (env' := [(4, .int .u8 0), (1, .int .u8 b), (0, .int .u8 a)]) ?_ (by simp only [envSub, go_sem, reduceCtorEq, Nat.reduceEqDiff, ↓reduceIte] <;> rfl)
  have key : ∀ (k : Nat) (a' b' r : Int), b' ≤ k → mulG k a' b' r = mulF a b → Ok C [⟨91, none, 24, [.t 4], [(4, .int .u8 r), (1, .int .u8 b'), (0, .int .u8 a')], [.c laMuln0, .lp laMuln0, .blk 0, .c taMuln1], []⟩] H := by
    have m1 : min 1 8 = 1 := rfl
    have m7 : min 7 8 = 7 := rfl
    intro k
    induction k with
    | zero =>
      intro a' b' r hb he
      have h1 : decide ((0 : Int) < b') = false := by simp; omega
      refine ok_head laMuln0.eq_1 (vc_ok 100 _ _ ?_)
      simp only [h1, hd taMuln1.eq_1, go_sem, Nat.reduceEqDiff, Nat.reduceLT, ↓reduceIte]
      rw [mulG] at he
      subst he
      exact fin00 hf hQ hw rfl ⟨rfl, rfl⟩
    | succ k ih =>
      intro a' b' r hb he
      rw [mulG] at he
      split at he
      · rename_i hle
        have h1 : decide ((0 : Int) < b') = false := by simp; omega
        refine ok_head laMuln0.eq_1 (vc_ok 100 _ _ ?_)
        simp only [h1, hd taMuln1.eq_1, go_sem, Nat.reduceEqDiff, Nat.reduceLT, ↓reduceIte]
        subst he
        exact fin00 hf hQ hw rfl ⟨rfl, rfl⟩
      · rename_i hle
        have h1 : decide ((0 : Int) < b') = true := by simp; omega
        have hb2 : b'.fdiv (2 ^ 1) ≤ (k : Int) := by
          rw [Int.fdiv_eq_ediv_of_nonneg _ (by decide)]; omega
        split at he
        · rename_i ho
          refine ok_head laMuln0.eq_1 (vc_ok 100 _ _ ?_)
          simp only [h1, ho, m1, m7, go_sem, reduceCtorEq, Nat.reduceEqDiff, Nat.reduceLT, Int.reduceToNat, Int.reduceLE, ↓reduceIte, Int.reduceBEq]
          exact ok_less (ih _ _ _ hb2 he) (by simp only [envSub, go_sem, reduceCtorEq, Nat.reduceEqDiff, ↓reduceIte] <;> rfl)
        · rename_i ho
          refine ok_head laMuln0.eq_1 (vc_ok 100 _ _ ?_)
          have ho2 : (bw .and .u8 b' 1 == 1) = false := by simpa using ho
          simp only [h1, ho2, m1, m7, Bool.false_eq_true, go_sem, reduceCtorEq, Nat.reduceEqDiff, Nat.reduceLT, Int.reduceToNat, Int.reduceLE, ↓reduceIte]
          have K := ih _ _ r hb2 he
          exact ok_less K (by simp only [envSub, go_sem, reduceCtorEq, Nat.reduceEqDiff, ↓reduceIte] <;> rfl)
  exact key b.toNat a b 0 (by omega) rfl

/-- A column mixed. -/
def mixS (c : List Int) (i : Nat) (w : List Int) : List Int :=
  w.set i (xorF [mulF 2 (c.getD i 0), mulF 3 (c.getD ((i + 1) % 4) 0), c.getD ((i + 2) % 4) 0, c.getD ((i + 3) % 4) 0])
def mixF (c : List Int) : List Int := it (mixS c) 4 [0, 0, 0, 0]

theorem spaMix (H : List SO) (c : List Int) : Spec Try.prog 110 [.agg [.run .u8 4 c]] H fun v hs => v = .agg [.run .u8 4 (mixF c)] ∧ hs = H := by
  refine spec_h okaMix rfl (of_ble rfl) fun C hP hf hQ h0 hw hbd => ?_
  apply vc_ok 100
  simp only [FS.start, caMix, paramsE, go_sem, Nat.reduceLT, ↓reduceIte]
  refine ok_less (env' := [(8, .int .i64 (0 : Nat)), (1, .ptr H.length 0), (2, .ptr (H.length + 1) 0)]) ?_ (by simp only [envSub, go_sem, Nat.reduceEqDiff, ↓reduceIte] <;> rfl)
  have key : ∀ Hd : List SO, (∀ u, u < H.length → Hd[u]? = H[u]?) → Hd[H.length]? = some (.cells [.run .u8 4 c] 186 0 0) → Hd[H.length + 1]? = some (.cells [.run .u8 4 [0, 0, 0, 0]] 186 0 0) →
      Ok C [⟨110, none, 41, [.a 2 4], [(8, .int .i64 (0 : Nat)), (1, .ptr H.length 0), (2, .ptr (H.length + 1) 0)], [.c laMixn0, .lp laMixn0, .blk 0, .c taMixn1], []⟩] Hd := by
    refine up (p := fun i => ∀ Hd : List SO, (∀ u, u < H.length → Hd[u]? = H[u]?) → Hd[H.length]? = some (.cells [.run .u8 4 c] 186 0 0) → Hd[H.length + 1]? = some (.cells [.run .u8 4 (it (mixS c) i [0, 0, 0, 0])] 186 0 0) →
      Ok C [⟨110, none, 41, [.a 2 4], [(8, .int .i64 i), (1, .ptr H.length 0), (2, .ptr (H.length + 1) 0)], [.c laMixn0, .lp laMixn0, .blk 0, .c taMixn1], []⟩] Hd) 4 ?_ ?_
    · intro i hi K Hd hk f0 f1
      have l0 := lt_of_at f0
      have l1 := lt_of_at f1
      have h1 : decide ((i : Int) < 4) = true := by simp; omega
      have q1 : Int.tmod (IntKind.i64.wrap ((i : Int) + 1)) 4 = (((i + 1) % 4 : Nat) : Int) := by rw [w64 (by omega) (by omega), Int.tmod_eq_emod_of_nonneg (by omega)]; omega
      have q2 : Int.tmod (IntKind.i64.wrap ((i : Int) + 2)) 4 = (((i + 2) % 4 : Nat) : Int) := by rw [w64 (by omega) (by omega), Int.tmod_eq_emod_of_nonneg (by omega)]; omega
      have q3 : Int.tmod (IntKind.i64.wrap ((i : Int) + 3)) 4 = (((i + 3) % 4 : Nat) : Int) := by rw [w64 (by omega) (by omega), Int.tmod_eq_emod_of_nonneg (by omega)]; omega
      refine ok_head laMixn0.eq_1 (vc_ok 100 _ _ ?_)
      simp only [h1, q1, q2, q3, f0, ne_eq, eq_self, not_false_eq_true, go_sem, Nat.reduceEqDiff, Nat.reduceLT, Int.reduceEq, ↓reduceIte]
      refine ⟨⟨by omega, by omega⟩, by omega, ⟨by omega, by omega⟩, by omega, ⟨by omega, by omega⟩, by omega, ⟨by omega, by omega⟩, by omega, ?_⟩
      refine ok_ch hP 100 (spaMul _ _ _) okaMul rfl rfl fun v hs' hq => ?_
      obtain ⟨rfl, eh⟩ := hq
      simp only [eh, go_sem, Nat.reduceEqDiff, Nat.reduceLT, ↓reduceIte]
      clear eh
      refine ok_ch hP 100 (spaMul _ _ _) okaMul rfl rfl fun v hs' hq => ?_
      obtain ⟨rfl, eh⟩ := hq
      simp only [eh, go_sem, Nat.reduceEqDiff, Nat.reduceLT, ↓reduceIte]
      clear eh
      refine ok_ch hP 100 (spaAdd _ Hd.length 5 4 [mulF 2 (c.getD i 0), mulF 3 (c.getD ((i + 1) % 4) 0), c.getD ((i + 2) % 4) 0, c.getD ((i + 3) % 4) 0] (by simp only [hx_new0, eq_self, go_sem]) rfl (by decide)) okaAdd rfl rfl fun v hs' hq => ?_
      obtain ⟨rfl, rfl⟩ := hq
      have n1 : (H.length + 1 = Hd.length) = False := by simp; omega
      have n0 : (H.length + 1 = H.length) = False := by simp
      simp only [f1, l1, hx_old, hx_sold, eq_self, go_sem, Nat.reduceEqDiff, Nat.reduceLT, ↓reduceIte]
      refine ⟨⟨by omega, by omega⟩, by omega, ?_⟩
      refine ok_less (env' := [(8, .int .i64 (i + 1 : Nat)), (1, .ptr H.length 0), (2, .ptr (H.length + 1) 0)]) (K _ ?_ ?_ ?_) ?_
      · intro u hu
        have e1 : (H.length + 1 = u) = False := by simp; omega
        have e2 : u < Hd.length := by omega
        simp only [e1, e2, hx_old, hx_ne, List.length_set, ne_eq, not_false_eq_true]
        exact hk u hu
      · simp only [f0, l0, n0, hx_old, hx_ne, List.length_set, ne_eq, eq_self, not_false_eq_true]
      · simp only [l1, hx_old, hx_eq, List.length_set]
        rfl
      · simp only [envSub, w64s (show i + 1 < 9223372036854775808 by omega), go_sem, Nat.reduceEqDiff, ↓reduceIte]
    · intro Hd hk f0 f1
      have l0 := lt_of_at f0
      have l1 := lt_of_at f1
      refine ok_head laMixn0.eq_1 (vc_ok 100 _ _ ?_)
      simp only [hd taMixn1.eq_1, f1, l1, hx_eq, eq_self, go_sem, Nat.reduceEqDiff, Nat.reduceLT, Int.reduceLT, ↓reduceIte]
      refine ⟨hf.symm, ?_⟩
      rw [hQ]
      refine gq_keep hw ?_ rfl ⟨rfl, rfl⟩
      intro u hu
      have e1 : (H.length + 1 = u) = False := by simp; omega
      simp only [e1, hx_ne, ne_eq, not_false_eq_true]
      exact hk u hu
  exact key _ (fun u hu => by simp only [hu, hx_old, eq_self]) (by simp only [go_sem]) (by simp only [go_sem])
end Go.Pv
