/- What the machine needs of the program, and that it is so. -/
import Derived.Test.YtjpkccofeafkbaaGreatPvxF5
import Derived.Test.YtjpkccofeafkbaaGreatProg
import Derived.KernelRfl
set_option linter.unusedSimpArgs false
namespace Go.Proofs.YtjpkccofeafkbaaGreat.Pvx
open Go.RowKit
set_option linter.unusedVariables false
set_option maxRecDepth 100000
noncomputable def n16Tys : List (Nat × TyI) := [(3, ⟨false, [.int .i64 0], 8, .int .i64⟩),
  (4, ⟨false, [.bool false], 1, .bool⟩),
  (5, ⟨false, [.int .u8 0], 1, .int .u8⟩),
  (9, ⟨false, [.str []], 16, .str⟩),
  (22, ⟨false, [.int .u32 0], 4, .int .u32⟩),
  (26, ⟨false, [.int .i64 0], 8, .int .i64⟩),
  (48, ⟨true, [.int .u32 0, .int .u8 0], 8, .struct [(0, 1), (1, 1)] [22, 5] [false, false]⟩),
  (49, ⟨false, [.nsl], 24, .sl 216⟩),
  (50, ⟨false, [.nsl], 24, .sl 22⟩),
  (52, ⟨true, [.int .u8 0, .nsl, .int .u32 0, .bool false, .int .u32 0, .bool false, .int .u32 0, .nsl], 80, .struct [(0, 1), (1, 1), (2, 1), (3, 1), (4, 1), (5, 1), (6, 1), (7, 1)] [5, 49, 22, 4, 22, 4, 22, 50] []⟩),
  (67, ⟨false, [.nsl], 24, .sl 48⟩),
  (69, ⟨true, [.nsl, .nsl, .int .u8 0, .nsl, .int .u32 0, .bool false, .int .u32 0, .bool false, .int .u32 0, .nsl], 128, .struct [(0, 1), (1, 1), (2, 8)] [67, 67, 52] []⟩),
  (75, ⟨false, [.nfn], 8, .func⟩),
  (147, ⟨false, [.int .i64 0], 8, .int .i64⟩),
  (148, ⟨false, [.int .u16 0], 2, .int .u16⟩),
  (149, ⟨false, [.nsl], 24, .sl 266⟩),
  (151, ⟨true, [.int .u32 0, .int .u16 0, .int .u32 0, .nsl], 40, .struct [(0, 1), (1, 1), (2, 1), (3, 1)] [22, 148, 22, 149] []⟩),
  (152, ⟨false, [.nsl], 24, .sl 5⟩),
  (154, ⟨true, [.int .u8 0, .int .u8 0, .nsl], 32, .struct [(0, 1), (1, 1), (2, 1)] [5, 5, 152] []⟩),
  (156, ⟨true, [.int .i64 0, .int .u32 0, .int .u16 0, .int .u32 0, .nsl, .nsl, .nsl, .int .u8 0, .nsl, .int .u32 0, .bool false, .int .u32 0, .bool false, .int .u32 0, .nsl, .int .u8 0, .int .u8 0, .nsl], 208, .struct [(0, 1), (1, 4), (5, 10), (15, 3)] [147, 151, 69, 154] []⟩),
  (161, ⟨false, [.nfn], 8, .func⟩),
  (162, ⟨false, [.nfn], 8, .func⟩),
  (175, ⟨false, [.nfn], 8, .func⟩),
  (207, ⟨false, [.nfn], 8, .func⟩),
  (216, ⟨true, [.bool false, .nsl], 32, .struct [(0, 1), (1, 1)] [4, 50] []⟩),
  (227, ⟨false, [.nptr], 8, .ptr⟩),
  (250, ⟨false, [.nfn], 8, .func⟩),
  (266, ⟨true, [.int .u8 0, .nsl], 32, .struct [(0, 1), (1, 1)] [5, 152] []⟩),
  (267, ⟨false, [.nptr], 8, .ptr⟩),
  (273, ⟨false, [.nfn], 8, .func⟩),
  (274, ⟨false, [.nfn], 8, .func⟩),
  (276, ⟨true, [.nfn, .nfn, .nfn, .nfn], 32, .struct [(0, 1), (1, 1), (2, 1), (3, 1)] [273, 161, 162, 274] []⟩),
  (277, ⟨false, [.nmap], 8, .map 147 276⟩),
  (287, ⟨false, [.nptr], 8, .ptr⟩),
  (297, ⟨false, [.nsl], 24, .sl 26⟩),
  (300, ⟨false, [.nmap], 8, .map 48 4⟩),
  (316, ⟨false, [.nfn], 8, .func⟩),
  (341, ⟨false, [.nfn], 8, .func⟩),
  (343, ⟨false, [.nfn], 8, .func⟩),
  (357, ⟨false, [.nptr], 8, .ptr⟩),
  (360, ⟨true, [.nptr, .int .i64 0], 16, .struct [(0, 1), (1, 1)] [357, 26] []⟩),
  (364, ⟨false, [.int .u64 0], 8, .int .u64⟩),
  (367, ⟨false, [.nfn], 8, .func⟩),
  (371, ⟨false, [.nfn], 8, .func⟩),
  (387, ⟨false, [.nfn], 8, .func⟩),
  (396, ⟨false, [.nsl], 24, .sl 3⟩),
  (397, ⟨false, [.int .u64 0], 8, .int .u64⟩),
  (398, ⟨false, [.nfn], 8, .func⟩),
  (420, ⟨false, [.nfn], 8, .func⟩),
  (421, ⟨false, [.nfn], 8, .func⟩),
  (423, ⟨true, [.int .u8 0, .int .u8 0, .nfn, .nfn, .nfn], 32, .struct [(0, 1), (1, 1), (2, 1), (3, 1), (4, 1)] [5, 5, 250, 420, 421] []⟩),
  (424, ⟨false, [.nsl], 24, .sl 152⟩),
  (437, ⟨true, [.nsl], 24, .struct [(0, 1)] [152] []⟩),
  (439, ⟨true, [.nsl, .int .i64 0, .bool false], 40, .struct [(0, 1), (1, 1), (2, 1)] [437, 26, 4] []⟩),
  (448, ⟨false, [.nptr], 8, .ptr⟩),
  (450, ⟨true, [.nsl], 24, .struct [(0, 1)] [152] []⟩),
  (452, ⟨true, [.nsl, .int .u32 0, .int .u16 0, .int .u32 0, .nsl, .nsl], 88, .struct [(0, 1), (1, 4), (5, 1)] [450, 151, 149] []⟩),
  (454, ⟨true, [.nfn, .int .i64 0], 16, .struct [(0, 1), (1, 1)] [75, 26] []⟩),
  (455, ⟨false, [.nsl], 24, .sl 454⟩),
  (456, ⟨false, [.nptr], 8, .ptr⟩),
  (458, ⟨true, [.nsl], 24, .struct [(0, 1)] [152] []⟩),
  (460, ⟨true, [.nsl, .nsl, .nsl, .int .u8 0, .nsl, .int .u32 0, .bool false, .int .u32 0, .bool false, .int .u32 0, .nsl, .bool false], 160, .struct [(0, 1), (1, 10), (11, 1)] [458, 69, 4] []⟩),
  (461, ⟨false, [.nfn], 8, .func⟩),
  (465, ⟨false, [.nsl], 24, .sl 175⟩),
  (488, ⟨false, [.nsl], 24, .sl 423⟩),
  (490, ⟨false, [.nfn], 8, .func⟩),
  (498, ⟨false, [.nfn], 8, .func⟩),
  (503, ⟨false, [.nsl], 24, .sl 507⟩),
  (505, ⟨false, [.nfn], 8, .func⟩),
  (507, ⟨true, [.nfn, .int .i64 0], 16, .struct [(0, 1), (1, 1)] [505, 26] []⟩),
  (519, ⟨false, [.nptr], 8, .ptr⟩),
  (521, ⟨true, [.nsl], 24, .struct [(0, 1)] [152] []⟩),
  (523, ⟨true, [.nsl, .int .u8 0, .int .i64 0, .int .u8 0, .nsl, .int .u32 0, .bool false, .int .u32 0, .bool false, .int .u32 0, .nsl], 120, .struct [(0, 1), (1, 1), (2, 1), (3, 8)] [521, 5, 3, 52] []⟩),
  (545, ⟨false, [.int .i64 0], 8, .int .i64⟩),
  (567, ⟨false, [.int .u64 0], 8, .int .u64⟩),
  (571, ⟨false, [.nptr], 8, .ptr⟩)]
noncomputable def n16Fns : List (Nat × Func) := [(16, Tryz.f16), (47, Tryz.f47), (73, Tryz.f73), (74, Tryz.f74), (76, Tryz.f76), (77, Tryz.f77), (79, Tryz.f79), (82, Tryz.f82), (83, Tryz.f83), (111, Tryz.f111), (112, Tryz.f112), (118, Tryz.f118), (132, Tryz.f132), (133, Tryz.f133), (134, Tryz.f134), (164, Tryz.f164), (165, Tryz.f165), (166, Tryz.f166), (167, Tryz.f167), (168, Tryz.f168), (174, Tryz.f174), (181, Tryz.f181), (182, Tryz.f182), (183, Tryz.f183), (184, Tryz.f184), (185, Tryz.f185), (195, Tryz.f195), (197, Tryz.f197), (198, Tryz.f198), (199, Tryz.f199), (203, Tryz.f203), (204, Tryz.f204), (205, Tryz.f205), (208, Tryz.f208), (226, Tryz.f226), (227, Tryz.f227), (228, Tryz.f228), (229, Tryz.f229), (230, Tryz.f230), (231, Tryz.f231), (232, Tryz.f232), (233, Tryz.f233), (237, Tryz.f237), (239, Tryz.f239), (253, Tryz.f253), (254, Tryz.f254), (255, Tryz.f255), (256, Tryz.f256), (257, Tryz.f257), (258, Tryz.f258), (259, Tryz.f259), (260, Tryz.f260), (261, Tryz.f261), (262, Tryz.f262), (263, Tryz.f263), (264, Tryz.f264), (265, Tryz.f265), (266, Tryz.f266), (267, Tryz.f267), (268, Tryz.f268), (269, Tryz.f269), (270, Tryz.f270), (271, Tryz.f271), (272, Tryz.f272), (273, Tryz.f273), (274, Tryz.f274), (275, Tryz.f275), (276, Tryz.f276), (277, Tryz.f277), (278, Tryz.f278), (279, Tryz.f279), (280, Tryz.f280), (281, Tryz.f281), (282, Tryz.f282), (283, Tryz.f283), (288, Tryz.f288), (297, Tryz.f297), (298, Tryz.f298), (299, Tryz.f299), (300, Tryz.f300), (301, Tryz.f301), (305, Tryz.f305), (307, Tryz.f307), (308, Tryz.f308), (312, Tryz.f312), (329, Tryz.f329), (330, Tryz.f330), (331, Tryz.f331), (332, Tryz.f332), (333, Tryz.f333), (334, Tryz.f334), (335, Tryz.f335), (336, Tryz.f336), (337, Tryz.f337), (339, Tryz.f339), (340, Tryz.f340), (341, Tryz.f341), (350, Tryz.f350), (351, Tryz.f351), (352, Tryz.f352), (353, Tryz.f353), (354, Tryz.f354), (355, Tryz.f355), (356, Tryz.f356), (357, Tryz.f357), (358, Tryz.f358), (359, Tryz.f359), (360, Tryz.f360), (361, Tryz.f361), (362, Tryz.f362), (363, Tryz.f363), (364, Tryz.f364), (365, Tryz.f365), (366, Tryz.f366), (367, Tryz.f367), (368, Tryz.f368), (369, Tryz.f369), (370, Tryz.f370), (371, Tryz.f371), (372, Tryz.f372), (373, Tryz.f373), (374, Tryz.f374), (375, Tryz.f375), (382, Tryz.f382), (387, Tryz.f387), (397, Tryz.f397), (398, Tryz.f398), (399, Tryz.f399), (400, Tryz.f400), (401, Tryz.f401), (402, Tryz.f402), (403, Tryz.f403), (404, Tryz.f404), (405, Tryz.f405), (406, Tryz.f406), (407, Tryz.f407), (408, Tryz.f408), (409, Tryz.f409), (410, Tryz.f410), (411, Tryz.f411), (412, Tryz.f412), (413, Tryz.f413), (414, Tryz.f414), (415, Tryz.f415), (416, Tryz.f416), (417, Tryz.f417), (418, Tryz.f418), (419, Tryz.f419), (420, Tryz.f420), (421, Tryz.f421), (422, Tryz.f422), (423, Tryz.f423), (425, Tryz.f425), (426, Tryz.f426), (427, Tryz.f427), (428, Tryz.f428), (429, Tryz.f429), (430, Tryz.f430), (431, Tryz.f431), (432, Tryz.f432), (433, Tryz.f433), (434, Tryz.f434), (452, Tryz.f452), (453, Tryz.f453), (454, Tryz.f454), (455, Tryz.f455), (456, Tryz.f456), (457, Tryz.f457), (458, Tryz.f458), (459, Tryz.f459), (460, Tryz.f460), (461, Tryz.f461), (462, Tryz.f462), (463, Tryz.f463), (464, Tryz.f464), (465, Tryz.f465), (467, Tryz.f467), (468, Tryz.f468), (469, Tryz.f469), (470, Tryz.f470), (471, Tryz.f471), (472, Tryz.f472), (473, Tryz.f473), (474, Tryz.f474), (499, Tryz.f499), (500, Tryz.f500), (501, Tryz.f501), (502, Tryz.f502), (503, Tryz.f503), (504, Tryz.f504), (505, Tryz.f505), (520, Tryz.f520)]
noncomputable def n16Tab : Tab := ⟨n16Fns, n16Tys, []⟩
theorem ty3 : TyOK Tryz.prog 3 ⟨false, [.int .i64 0], 8, .int .i64⟩ := TyOK.of Tryz.isAgg3 (by kernel_rfl) (by decide) Tryz.underlying3
theorem ty4 : TyOK Tryz.prog 4 ⟨false, [.bool false], 1, .bool⟩ := TyOK.of Tryz.isAgg4 (by kernel_rfl) (by decide) Tryz.underlying4
theorem ty5 : TyOK Tryz.prog 5 ⟨false, [.int .u8 0], 1, .int .u8⟩ := TyOK.of Tryz.isAgg5 (by kernel_rfl) (by decide) Tryz.underlying5
theorem ty9 : TyOK Tryz.prog 9 ⟨false, [.str []], 16, .str⟩ := TyOK.of Tryz.isAgg9 (by kernel_rfl) (by decide) Tryz.underlying9
theorem ty22 : TyOK Tryz.prog 22 ⟨false, [.int .u32 0], 4, .int .u32⟩ := TyOK.of Tryz.isAgg22 (by kernel_rfl) (by decide) Tryz.underlying22
theorem ty26 : TyOK Tryz.prog 26 ⟨false, [.int .i64 0], 8, .int .i64⟩ := TyOK.of Tryz.isAgg26 (by kernel_rfl) (by decide) Tryz.underlying26
theorem ty48 : TyOK Tryz.prog 48 ⟨true, [.int .u32 0, .int .u8 0], 8, .struct [(0, 1), (1, 1)] [22, 5] [false, false]⟩ := TyOK.of Tryz.isAgg48 (by kernel_rfl) (by decide) ⟨_, StructOK.of Tryz.underlying48 (FsOK.cons rfl rfl ty22 rfl (FsOK.cons rfl rfl ty5 rfl FsOK.nil)) (.inr ⟨by kernel_rfl, by kernel_rfl, (FlOK.cons (by decide) rfl ⟨_, Tryz.underlying22⟩ (FlOK.cons (by decide) rfl ⟨_, Tryz.underlying5⟩ FlOK.nil))⟩)⟩
theorem ty49 : TyOK Tryz.prog 49 ⟨false, [.nsl], 24, .sl 216⟩ := TyOK.of Tryz.isAgg49 (by kernel_rfl) (by decide) Tryz.underlying49
theorem ty50 : TyOK Tryz.prog 50 ⟨false, [.nsl], 24, .sl 22⟩ := TyOK.of Tryz.isAgg50 (by kernel_rfl) (by decide) Tryz.underlying50
theorem ty52 : TyOK Tryz.prog 52 ⟨true, [.int .u8 0, .nsl, .int .u32 0, .bool false, .int .u32 0, .bool false, .int .u32 0, .nsl], 80, .struct [(0, 1), (1, 1), (2, 1), (3, 1), (4, 1), (5, 1), (6, 1), (7, 1)] [5, 49, 22, 4, 22, 4, 22, 50] []⟩ := TyOK.of Tryz.isAgg52 (by kernel_rfl) (by decide) ⟨_, StructOK.of Tryz.underlying52 (FsOK.cons rfl rfl ty5 rfl (FsOK.cons rfl rfl ty49 rfl (FsOK.cons rfl rfl ty22 rfl (FsOK.cons rfl rfl ty4 rfl (FsOK.cons rfl rfl ty22 rfl (FsOK.cons rfl rfl ty4 rfl (FsOK.cons rfl rfl ty22 rfl (FsOK.cons rfl rfl ty50 rfl FsOK.nil)))))))) (.inl rfl)⟩
theorem ty67 : TyOK Tryz.prog 67 ⟨false, [.nsl], 24, .sl 48⟩ := TyOK.of Tryz.isAgg67 (by kernel_rfl) (by decide) Tryz.underlying67
theorem ty69 : TyOK Tryz.prog 69 ⟨true, [.nsl, .nsl, .int .u8 0, .nsl, .int .u32 0, .bool false, .int .u32 0, .bool false, .int .u32 0, .nsl], 128, .struct [(0, 1), (1, 1), (2, 8)] [67, 67, 52] []⟩ := TyOK.of Tryz.isAgg69 (by kernel_rfl) (by decide) ⟨_, StructOK.of Tryz.underlying69 (FsOK.cons rfl rfl ty67 rfl (FsOK.cons rfl rfl ty67 rfl (FsOK.cons rfl rfl ty52 rfl FsOK.nil))) (.inl rfl)⟩
theorem ty75 : TyOK Tryz.prog 75 ⟨false, [.nfn], 8, .func⟩ := TyOK.of Tryz.isAgg75 (by kernel_rfl) (by decide) ⟨_, _, _, Tryz.underlying75⟩
theorem ty147 : TyOK Tryz.prog 147 ⟨false, [.int .i64 0], 8, .int .i64⟩ := TyOK.of Tryz.isAgg147 (by kernel_rfl) (by decide) Tryz.underlying147
theorem ty148 : TyOK Tryz.prog 148 ⟨false, [.int .u16 0], 2, .int .u16⟩ := TyOK.of Tryz.isAgg148 (by kernel_rfl) (by decide) Tryz.underlying148
theorem ty149 : TyOK Tryz.prog 149 ⟨false, [.nsl], 24, .sl 266⟩ := TyOK.of Tryz.isAgg149 (by kernel_rfl) (by decide) Tryz.underlying149
theorem ty151 : TyOK Tryz.prog 151 ⟨true, [.int .u32 0, .int .u16 0, .int .u32 0, .nsl], 40, .struct [(0, 1), (1, 1), (2, 1), (3, 1)] [22, 148, 22, 149] []⟩ := TyOK.of Tryz.isAgg151 (by kernel_rfl) (by decide) ⟨_, StructOK.of Tryz.underlying151 (FsOK.cons rfl rfl ty22 rfl (FsOK.cons rfl rfl ty148 rfl (FsOK.cons rfl rfl ty22 rfl (FsOK.cons rfl rfl ty149 rfl FsOK.nil)))) (.inl rfl)⟩
theorem ty152 : TyOK Tryz.prog 152 ⟨false, [.nsl], 24, .sl 5⟩ := TyOK.of Tryz.isAgg152 (by kernel_rfl) (by decide) Tryz.underlying152
theorem ty154 : TyOK Tryz.prog 154 ⟨true, [.int .u8 0, .int .u8 0, .nsl], 32, .struct [(0, 1), (1, 1), (2, 1)] [5, 5, 152] []⟩ := TyOK.of Tryz.isAgg154 (by kernel_rfl) (by decide) ⟨_, StructOK.of Tryz.underlying154 (FsOK.cons rfl rfl ty5 rfl (FsOK.cons rfl rfl ty5 rfl (FsOK.cons rfl rfl ty152 rfl FsOK.nil))) (.inl rfl)⟩
theorem ty156 : TyOK Tryz.prog 156 ⟨true, [.int .i64 0, .int .u32 0, .int .u16 0, .int .u32 0, .nsl, .nsl, .nsl, .int .u8 0, .nsl, .int .u32 0, .bool false, .int .u32 0, .bool false, .int .u32 0, .nsl, .int .u8 0, .int .u8 0, .nsl], 208, .struct [(0, 1), (1, 4), (5, 10), (15, 3)] [147, 151, 69, 154] []⟩ := TyOK.of Tryz.isAgg156 (by kernel_rfl) (by decide) ⟨_, StructOK.of Tryz.underlying156 (FsOK.cons rfl rfl ty147 rfl (FsOK.cons rfl rfl ty151 rfl (FsOK.cons rfl rfl ty69 rfl (FsOK.cons rfl rfl ty154 rfl FsOK.nil)))) (.inl rfl)⟩
theorem ty161 : TyOK Tryz.prog 161 ⟨false, [.nfn], 8, .func⟩ := TyOK.of Tryz.isAgg161 (by kernel_rfl) (by decide) ⟨_, _, _, Tryz.underlying161⟩
theorem ty162 : TyOK Tryz.prog 162 ⟨false, [.nfn], 8, .func⟩ := TyOK.of Tryz.isAgg162 (by kernel_rfl) (by decide) ⟨_, _, _, Tryz.underlying162⟩
theorem ty175 : TyOK Tryz.prog 175 ⟨false, [.nfn], 8, .func⟩ := TyOK.of Tryz.isAgg175 (by kernel_rfl) (by decide) ⟨_, _, _, Tryz.underlying175⟩
theorem ty207 : TyOK Tryz.prog 207 ⟨false, [.nfn], 8, .func⟩ := TyOK.of Tryz.isAgg207 (by kernel_rfl) (by decide) ⟨_, _, _, Tryz.underlying207⟩
theorem ty216 : TyOK Tryz.prog 216 ⟨true, [.bool false, .nsl], 32, .struct [(0, 1), (1, 1)] [4, 50] []⟩ := TyOK.of Tryz.isAgg216 (by kernel_rfl) (by decide) ⟨_, StructOK.of Tryz.underlying216 (FsOK.cons rfl rfl ty4 rfl (FsOK.cons rfl rfl ty50 rfl FsOK.nil)) (.inl rfl)⟩
theorem ty227 : TyOK Tryz.prog 227 ⟨false, [.nptr], 8, .ptr⟩ := TyOK.of Tryz.isAgg227 (by kernel_rfl) (by decide) ⟨_, Tryz.underlying227⟩
theorem ty250 : TyOK Tryz.prog 250 ⟨false, [.nfn], 8, .func⟩ := TyOK.of Tryz.isAgg250 (by kernel_rfl) (by decide) ⟨_, _, _, Tryz.underlying250⟩
theorem ty266 : TyOK Tryz.prog 266 ⟨true, [.int .u8 0, .nsl], 32, .struct [(0, 1), (1, 1)] [5, 152] []⟩ := TyOK.of Tryz.isAgg266 (by kernel_rfl) (by decide) ⟨_, StructOK.of Tryz.underlying266 (FsOK.cons rfl rfl ty5 rfl (FsOK.cons rfl rfl ty152 rfl FsOK.nil)) (.inl rfl)⟩
theorem ty267 : TyOK Tryz.prog 267 ⟨false, [.nptr], 8, .ptr⟩ := TyOK.of Tryz.isAgg267 (by kernel_rfl) (by decide) ⟨_, Tryz.underlying267⟩
theorem ty273 : TyOK Tryz.prog 273 ⟨false, [.nfn], 8, .func⟩ := TyOK.of Tryz.isAgg273 (by kernel_rfl) (by decide) ⟨_, _, _, Tryz.underlying273⟩
theorem ty274 : TyOK Tryz.prog 274 ⟨false, [.nfn], 8, .func⟩ := TyOK.of Tryz.isAgg274 (by kernel_rfl) (by decide) ⟨_, _, _, Tryz.underlying274⟩
theorem ty276 : TyOK Tryz.prog 276 ⟨true, [.nfn, .nfn, .nfn, .nfn], 32, .struct [(0, 1), (1, 1), (2, 1), (3, 1)] [273, 161, 162, 274] []⟩ := TyOK.of Tryz.isAgg276 (by kernel_rfl) (by decide) ⟨_, StructOK.of Tryz.underlying276 (FsOK.cons rfl rfl ty273 rfl (FsOK.cons rfl rfl ty161 rfl (FsOK.cons rfl rfl ty162 rfl (FsOK.cons rfl rfl ty274 rfl FsOK.nil)))) (.inl rfl)⟩
theorem ty277 : TyOK Tryz.prog 277 ⟨false, [.nmap], 8, .map 147 276⟩ := TyOK.of Tryz.isAgg277 (by kernel_rfl) (by decide) Tryz.underlying277
theorem ty287 : TyOK Tryz.prog 287 ⟨false, [.nptr], 8, .ptr⟩ := TyOK.of Tryz.isAgg287 (by kernel_rfl) (by decide) ⟨_, Tryz.underlying287⟩
theorem ty297 : TyOK Tryz.prog 297 ⟨false, [.nsl], 24, .sl 26⟩ := TyOK.of Tryz.isAgg297 (by kernel_rfl) (by decide) Tryz.underlying297
theorem ty300 : TyOK Tryz.prog 300 ⟨false, [.nmap], 8, .map 48 4⟩ := TyOK.of Tryz.isAgg300 (by kernel_rfl) (by decide) Tryz.underlying300
theorem ty316 : TyOK Tryz.prog 316 ⟨false, [.nfn], 8, .func⟩ := TyOK.of Tryz.isAgg316 (by kernel_rfl) (by decide) ⟨_, _, _, Tryz.underlying316⟩
theorem ty341 : TyOK Tryz.prog 341 ⟨false, [.nfn], 8, .func⟩ := TyOK.of Tryz.isAgg341 (by kernel_rfl) (by decide) ⟨_, _, _, Tryz.underlying341⟩
theorem ty343 : TyOK Tryz.prog 343 ⟨false, [.nfn], 8, .func⟩ := TyOK.of Tryz.isAgg343 (by kernel_rfl) (by decide) ⟨_, _, _, Tryz.underlying343⟩
theorem ty357 : TyOK Tryz.prog 357 ⟨false, [.nptr], 8, .ptr⟩ := TyOK.of Tryz.isAgg357 (by kernel_rfl) (by decide) ⟨_, Tryz.underlying357⟩
theorem ty360 : TyOK Tryz.prog 360 ⟨true, [.nptr, .int .i64 0], 16, .struct [(0, 1), (1, 1)] [357, 26] []⟩ := TyOK.of Tryz.isAgg360 (by kernel_rfl) (by decide) ⟨_, StructOK.of Tryz.underlying360 (FsOK.cons rfl rfl ty357 rfl (FsOK.cons rfl rfl ty26 rfl FsOK.nil)) (.inl rfl)⟩
theorem ty364 : TyOK Tryz.prog 364 ⟨false, [.int .u64 0], 8, .int .u64⟩ := TyOK.of Tryz.isAgg364 (by kernel_rfl) (by decide) Tryz.underlying364
theorem ty367 : TyOK Tryz.prog 367 ⟨false, [.nfn], 8, .func⟩ := TyOK.of Tryz.isAgg367 (by kernel_rfl) (by decide) ⟨_, _, _, Tryz.underlying367⟩
theorem ty371 : TyOK Tryz.prog 371 ⟨false, [.nfn], 8, .func⟩ := TyOK.of Tryz.isAgg371 (by kernel_rfl) (by decide) ⟨_, _, _, Tryz.underlying371⟩
theorem ty387 : TyOK Tryz.prog 387 ⟨false, [.nfn], 8, .func⟩ := TyOK.of Tryz.isAgg387 (by kernel_rfl) (by decide) ⟨_, _, _, Tryz.underlying387⟩
theorem ty396 : TyOK Tryz.prog 396 ⟨false, [.nsl], 24, .sl 3⟩ := TyOK.of Tryz.isAgg396 (by kernel_rfl) (by decide) Tryz.underlying396
theorem ty397 : TyOK Tryz.prog 397 ⟨false, [.int .u64 0], 8, .int .u64⟩ := TyOK.of Tryz.isAgg397 (by kernel_rfl) (by decide) Tryz.underlying397
theorem ty398 : TyOK Tryz.prog 398 ⟨false, [.nfn], 8, .func⟩ := TyOK.of Tryz.isAgg398 (by kernel_rfl) (by decide) ⟨_, _, _, Tryz.underlying398⟩
theorem ty420 : TyOK Tryz.prog 420 ⟨false, [.nfn], 8, .func⟩ := TyOK.of Tryz.isAgg420 (by kernel_rfl) (by decide) ⟨_, _, _, Tryz.underlying420⟩
theorem ty421 : TyOK Tryz.prog 421 ⟨false, [.nfn], 8, .func⟩ := TyOK.of Tryz.isAgg421 (by kernel_rfl) (by decide) ⟨_, _, _, Tryz.underlying421⟩
theorem ty423 : TyOK Tryz.prog 423 ⟨true, [.int .u8 0, .int .u8 0, .nfn, .nfn, .nfn], 32, .struct [(0, 1), (1, 1), (2, 1), (3, 1), (4, 1)] [5, 5, 250, 420, 421] []⟩ := TyOK.of Tryz.isAgg423 (by kernel_rfl) (by decide) ⟨_, StructOK.of Tryz.underlying423 (FsOK.cons rfl rfl ty5 rfl (FsOK.cons rfl rfl ty5 rfl (FsOK.cons rfl rfl ty250 rfl (FsOK.cons rfl rfl ty420 rfl (FsOK.cons rfl rfl ty421 rfl FsOK.nil))))) (.inl rfl)⟩
theorem ty424 : TyOK Tryz.prog 424 ⟨false, [.nsl], 24, .sl 152⟩ := TyOK.of Tryz.isAgg424 (by kernel_rfl) (by decide) Tryz.underlying424
theorem ty437 : TyOK Tryz.prog 437 ⟨true, [.nsl], 24, .struct [(0, 1)] [152] []⟩ := TyOK.of Tryz.isAgg437 (by kernel_rfl) (by decide) ⟨_, StructOK.of Tryz.underlying437 (FsOK.cons rfl rfl ty152 rfl FsOK.nil) (.inl rfl)⟩
theorem ty439 : TyOK Tryz.prog 439 ⟨true, [.nsl, .int .i64 0, .bool false], 40, .struct [(0, 1), (1, 1), (2, 1)] [437, 26, 4] []⟩ := TyOK.of Tryz.isAgg439 (by kernel_rfl) (by decide) ⟨_, StructOK.of Tryz.underlying439 (FsOK.cons rfl rfl ty437 rfl (FsOK.cons rfl rfl ty26 rfl (FsOK.cons rfl rfl ty4 rfl FsOK.nil))) (.inl rfl)⟩
theorem ty448 : TyOK Tryz.prog 448 ⟨false, [.nptr], 8, .ptr⟩ := TyOK.of Tryz.isAgg448 (by kernel_rfl) (by decide) ⟨_, Tryz.underlying448⟩
theorem ty450 : TyOK Tryz.prog 450 ⟨true, [.nsl], 24, .struct [(0, 1)] [152] []⟩ := TyOK.of Tryz.isAgg450 (by kernel_rfl) (by decide) ⟨_, StructOK.of Tryz.underlying450 (FsOK.cons rfl rfl ty152 rfl FsOK.nil) (.inl rfl)⟩
theorem ty452 : TyOK Tryz.prog 452 ⟨true, [.nsl, .int .u32 0, .int .u16 0, .int .u32 0, .nsl, .nsl], 88, .struct [(0, 1), (1, 4), (5, 1)] [450, 151, 149] []⟩ := TyOK.of Tryz.isAgg452 (by kernel_rfl) (by decide) ⟨_, StructOK.of Tryz.underlying452 (FsOK.cons rfl rfl ty450 rfl (FsOK.cons rfl rfl ty151 rfl (FsOK.cons rfl rfl ty149 rfl FsOK.nil))) (.inl rfl)⟩
theorem ty454 : TyOK Tryz.prog 454 ⟨true, [.nfn, .int .i64 0], 16, .struct [(0, 1), (1, 1)] [75, 26] []⟩ := TyOK.of Tryz.isAgg454 (by kernel_rfl) (by decide) ⟨_, StructOK.of Tryz.underlying454 (FsOK.cons rfl rfl ty75 rfl (FsOK.cons rfl rfl ty26 rfl FsOK.nil)) (.inl rfl)⟩
theorem ty455 : TyOK Tryz.prog 455 ⟨false, [.nsl], 24, .sl 454⟩ := TyOK.of Tryz.isAgg455 (by kernel_rfl) (by decide) Tryz.underlying455
theorem ty456 : TyOK Tryz.prog 456 ⟨false, [.nptr], 8, .ptr⟩ := TyOK.of Tryz.isAgg456 (by kernel_rfl) (by decide) ⟨_, Tryz.underlying456⟩
theorem ty458 : TyOK Tryz.prog 458 ⟨true, [.nsl], 24, .struct [(0, 1)] [152] []⟩ := TyOK.of Tryz.isAgg458 (by kernel_rfl) (by decide) ⟨_, StructOK.of Tryz.underlying458 (FsOK.cons rfl rfl ty152 rfl FsOK.nil) (.inl rfl)⟩
theorem ty460 : TyOK Tryz.prog 460 ⟨true, [.nsl, .nsl, .nsl, .int .u8 0, .nsl, .int .u32 0, .bool false, .int .u32 0, .bool false, .int .u32 0, .nsl, .bool false], 160, .struct [(0, 1), (1, 10), (11, 1)] [458, 69, 4] []⟩ := TyOK.of Tryz.isAgg460 (by kernel_rfl) (by decide) ⟨_, StructOK.of Tryz.underlying460 (FsOK.cons rfl rfl ty458 rfl (FsOK.cons rfl rfl ty69 rfl (FsOK.cons rfl rfl ty4 rfl FsOK.nil))) (.inl rfl)⟩
theorem ty461 : TyOK Tryz.prog 461 ⟨false, [.nfn], 8, .func⟩ := TyOK.of Tryz.isAgg461 (by kernel_rfl) (by decide) ⟨_, _, _, Tryz.underlying461⟩
theorem ty465 : TyOK Tryz.prog 465 ⟨false, [.nsl], 24, .sl 175⟩ := TyOK.of Tryz.isAgg465 (by kernel_rfl) (by decide) Tryz.underlying465
theorem ty488 : TyOK Tryz.prog 488 ⟨false, [.nsl], 24, .sl 423⟩ := TyOK.of Tryz.isAgg488 (by kernel_rfl) (by decide) Tryz.underlying488
theorem ty490 : TyOK Tryz.prog 490 ⟨false, [.nfn], 8, .func⟩ := TyOK.of Tryz.isAgg490 (by kernel_rfl) (by decide) ⟨_, _, _, Tryz.underlying490⟩
theorem ty498 : TyOK Tryz.prog 498 ⟨false, [.nfn], 8, .func⟩ := TyOK.of Tryz.isAgg498 (by kernel_rfl) (by decide) ⟨_, _, _, Tryz.underlying498⟩
theorem ty503 : TyOK Tryz.prog 503 ⟨false, [.nsl], 24, .sl 507⟩ := TyOK.of Tryz.isAgg503 (by kernel_rfl) (by decide) Tryz.underlying503
theorem ty505 : TyOK Tryz.prog 505 ⟨false, [.nfn], 8, .func⟩ := TyOK.of Tryz.isAgg505 (by kernel_rfl) (by decide) ⟨_, _, _, Tryz.underlying505⟩
theorem ty507 : TyOK Tryz.prog 507 ⟨true, [.nfn, .int .i64 0], 16, .struct [(0, 1), (1, 1)] [505, 26] []⟩ := TyOK.of Tryz.isAgg507 (by kernel_rfl) (by decide) ⟨_, StructOK.of Tryz.underlying507 (FsOK.cons rfl rfl ty505 rfl (FsOK.cons rfl rfl ty26 rfl FsOK.nil)) (.inl rfl)⟩
theorem ty519 : TyOK Tryz.prog 519 ⟨false, [.nptr], 8, .ptr⟩ := TyOK.of Tryz.isAgg519 (by kernel_rfl) (by decide) ⟨_, Tryz.underlying519⟩
theorem ty521 : TyOK Tryz.prog 521 ⟨true, [.nsl], 24, .struct [(0, 1)] [152] []⟩ := TyOK.of Tryz.isAgg521 (by kernel_rfl) (by decide) ⟨_, StructOK.of Tryz.underlying521 (FsOK.cons rfl rfl ty152 rfl FsOK.nil) (.inl rfl)⟩
theorem ty523 : TyOK Tryz.prog 523 ⟨true, [.nsl, .int .u8 0, .int .i64 0, .int .u8 0, .nsl, .int .u32 0, .bool false, .int .u32 0, .bool false, .int .u32 0, .nsl], 120, .struct [(0, 1), (1, 1), (2, 1), (3, 8)] [521, 5, 3, 52] []⟩ := TyOK.of Tryz.isAgg523 (by kernel_rfl) (by decide) ⟨_, StructOK.of Tryz.underlying523 (FsOK.cons rfl rfl ty521 rfl (FsOK.cons rfl rfl ty5 rfl (FsOK.cons rfl rfl ty3 rfl (FsOK.cons rfl rfl ty52 rfl FsOK.nil)))) (.inl rfl)⟩
theorem ty545 : TyOK Tryz.prog 545 ⟨false, [.int .i64 0], 8, .int .i64⟩ := TyOK.of Tryz.isAgg545 (by kernel_rfl) (by decide) Tryz.underlying545
theorem ty567 : TyOK Tryz.prog 567 ⟨false, [.int .u64 0], 8, .int .u64⟩ := TyOK.of Tryz.isAgg567 (by kernel_rfl) (by decide) Tryz.underlying567
theorem ty571 : TyOK Tryz.prog 571 ⟨false, [.nptr], 8, .ptr⟩ := TyOK.of Tryz.isAgg571 (by kernel_rfl) (by decide) ⟨_, Tryz.underlying571⟩
theorem n16TysOK : TysOK Tryz.prog n16Tys := (tysCons ty3 (tysCons ty4 (tysCons ty5 (tysCons ty9 (tysCons ty22 (tysCons ty26 (tysCons ty48 (tysCons ty49 (tysCons ty50 (tysCons ty52 (tysCons ty67 (tysCons ty69 (tysCons ty75 (tysCons ty147 (tysCons ty148 (tysCons ty149 (tysCons ty151 (tysCons ty152 (tysCons ty154 (tysCons ty156 (tysCons ty161 (tysCons ty162 (tysCons ty175 (tysCons ty207 (tysCons ty216 (tysCons ty227 (tysCons ty250 (tysCons ty266 (tysCons ty267 (tysCons ty273 (tysCons ty274 (tysCons ty276 (tysCons ty277 (tysCons ty287 (tysCons ty297 (tysCons ty300 (tysCons ty316 (tysCons ty341 (tysCons ty343 (tysCons ty357 (tysCons ty360 (tysCons ty364 (tysCons ty367 (tysCons ty371 (tysCons ty387 (tysCons ty396 (tysCons ty397 (tysCons ty398 (tysCons ty420 (tysCons ty421 (tysCons ty423 (tysCons ty424 (tysCons ty437 (tysCons ty439 (tysCons ty448 (tysCons ty450 (tysCons ty452 (tysCons ty454 (tysCons ty455 (tysCons ty456 (tysCons ty458 (tysCons ty460 (tysCons ty461 (tysCons ty465 (tysCons ty488 (tysCons ty490 (tysCons ty498 (tysCons ty503 (tysCons ty505 (tysCons ty507 (tysCons ty519 (tysCons ty521 (tysCons ty523 (tysCons ty545 (tysCons ty567 (tysCons ty571 tysNil))))))))))))))))))))))))))))))))))))))))))))))))))))))))))))))))))))))))))))
theorem n16FnsOK : FnsOK Tryz.prog n16Fns := (fnsCons Tryz.func16 (fnsCons Tryz.func47 (fnsCons Tryz.func73 (fnsCons Tryz.func74 (fnsCons Tryz.func76 (fnsCons Tryz.func77 (fnsCons Tryz.func79 (fnsCons Tryz.func82 (fnsCons Tryz.func83 (fnsCons Tryz.func111 (fnsCons Tryz.func112 (fnsCons Tryz.func118 (fnsCons Tryz.func132 (fnsCons Tryz.func133 (fnsCons Tryz.func134 (fnsCons Tryz.func164 (fnsCons Tryz.func165 (fnsCons Tryz.func166 (fnsCons Tryz.func167 (fnsCons Tryz.func168 (fnsCons Tryz.func174 (fnsCons Tryz.func181 (fnsCons Tryz.func182 (fnsCons Tryz.func183 (fnsCons Tryz.func184 (fnsCons Tryz.func185 (fnsCons Tryz.func195 (fnsCons Tryz.func197 (fnsCons Tryz.func198 (fnsCons Tryz.func199 (fnsCons Tryz.func203 (fnsCons Tryz.func204 (fnsCons Tryz.func205 (fnsCons Tryz.func208 (fnsCons Tryz.func226 (fnsCons Tryz.func227 (fnsCons Tryz.func228 (fnsCons Tryz.func229 (fnsCons Tryz.func230 (fnsCons Tryz.func231 (fnsCons Tryz.func232 (fnsCons Tryz.func233 (fnsCons Tryz.func237 (fnsCons Tryz.func239 (fnsCons Tryz.func253 (fnsCons Tryz.func254 (fnsCons Tryz.func255 (fnsCons Tryz.func256 (fnsCons Tryz.func257 (fnsCons Tryz.func258 (fnsCons Tryz.func259 (fnsCons Tryz.func260 (fnsCons Tryz.func261 (fnsCons Tryz.func262 (fnsCons Tryz.func263 (fnsCons Tryz.func264 (fnsCons Tryz.func265 (fnsCons Tryz.func266 (fnsCons Tryz.func267 (fnsCons Tryz.func268 (fnsCons Tryz.func269 (fnsCons Tryz.func270 (fnsCons Tryz.func271 (fnsCons Tryz.func272 (fnsCons Tryz.func273 (fnsCons Tryz.func274 (fnsCons Tryz.func275 (fnsCons Tryz.func276 (fnsCons Tryz.func277 (fnsCons Tryz.func278 (fnsCons Tryz.func279 (fnsCons Tryz.func280 (fnsCons Tryz.func281 (fnsCons Tryz.func282 (fnsCons Tryz.func283 (fnsCons Tryz.func288 (fnsCons Tryz.func297 (fnsCons Tryz.func298 (fnsCons Tryz.func299 (fnsCons Tryz.func300 (fnsCons Tryz.func301 (fnsCons Tryz.func305 (fnsCons Tryz.func307 (fnsCons Tryz.func308 (fnsCons Tryz.func312 (fnsCons Tryz.func329 (fnsCons Tryz.func330 (fnsCons Tryz.func331 (fnsCons Tryz.func332 (fnsCons Tryz.func333 (fnsCons Tryz.func334 (fnsCons Tryz.func335 (fnsCons Tryz.func336 (fnsCons Tryz.func337 (fnsCons Tryz.func339 (fnsCons Tryz.func340 (fnsCons Tryz.func341 (fnsCons Tryz.func350 (fnsCons Tryz.func351 (fnsCons Tryz.func352 (fnsCons Tryz.func353 (fnsCons Tryz.func354 (fnsCons Tryz.func355 (fnsCons Tryz.func356 (fnsCons Tryz.func357 (fnsCons Tryz.func358 (fnsCons Tryz.func359 (fnsCons Tryz.func360 (fnsCons Tryz.func361 (fnsCons Tryz.func362 (fnsCons Tryz.func363 (fnsCons Tryz.func364 (fnsCons Tryz.func365 (fnsCons Tryz.func366 (fnsCons Tryz.func367 (fnsCons Tryz.func368 (fnsCons Tryz.func369 (fnsCons Tryz.func370 (fnsCons Tryz.func371 (fnsCons Tryz.func372 (fnsCons Tryz.func373 (fnsCons Tryz.func374 (fnsCons Tryz.func375 (fnsCons Tryz.func382 (fnsCons Tryz.func387 (fnsCons Tryz.func397 (fnsCons Tryz.func398 (fnsCons Tryz.func399 (fnsCons Tryz.func400 (fnsCons Tryz.func401 (fnsCons Tryz.func402 (fnsCons Tryz.func403 (fnsCons Tryz.func404 (fnsCons Tryz.func405 (fnsCons Tryz.func406 (fnsCons Tryz.func407 (fnsCons Tryz.func408 (fnsCons Tryz.func409 (fnsCons Tryz.func410 (fnsCons Tryz.func411 (fnsCons Tryz.func412 (fnsCons Tryz.func413 (fnsCons Tryz.func414 (fnsCons Tryz.func415 (fnsCons Tryz.func416 (fnsCons Tryz.func417 (fnsCons Tryz.func418 (fnsCons Tryz.func419 (fnsCons Tryz.func420 (fnsCons Tryz.func421 (fnsCons Tryz.func422 (fnsCons Tryz.func423 (fnsCons Tryz.func425 (fnsCons Tryz.func426 (fnsCons Tryz.func427 (fnsCons Tryz.func428 (fnsCons Tryz.func429 (fnsCons Tryz.func430 (fnsCons Tryz.func431 (fnsCons Tryz.func432 (fnsCons Tryz.func433 (fnsCons Tryz.func434 (fnsCons Tryz.func452 (fnsCons Tryz.func453 (fnsCons Tryz.func454 (fnsCons Tryz.func455 (fnsCons Tryz.func456 (fnsCons Tryz.func457 (fnsCons Tryz.func458 (fnsCons Tryz.func459 (fnsCons Tryz.func460 (fnsCons Tryz.func461 (fnsCons Tryz.func462 (fnsCons Tryz.func463 (fnsCons Tryz.func464 (fnsCons Tryz.func465 (fnsCons Tryz.func467 (fnsCons Tryz.func468 (fnsCons Tryz.func469 (fnsCons Tryz.func470 (fnsCons Tryz.func471 (fnsCons Tryz.func472 (fnsCons Tryz.func473 (fnsCons Tryz.func474 (fnsCons Tryz.func499 (fnsCons Tryz.func500 (fnsCons Tryz.func501 (fnsCons Tryz.func502 (fnsCons Tryz.func503 (fnsCons Tryz.func504 (fnsCons Tryz.func505 (fnsCons Tryz.func520 fnsNil))))))))))))))))))))))))))))))))))))))))))))))))))))))))))))))))))))))))))))))))))))))))))))))))))))))))))))))))))))))))))))))))))))))))))))))))))))))))))))))))))))))))))))))))))))))))))))))))
theorem n16FnsIn : n16Fns.all fnIn = true := by kernel_rfl
theorem n16OK : TabOK Tryz.prog n16Tab := TabOK.of (by kernel_rfl) n16FnsOK n16FnsIn n16TysOK extNil
theorem n16Works : call n16Tab 400 73 [] h0 yes = true := by kernel_rfl
noncomputable def n16bFns : List (Nat × Func) := [(16, Tryz.f16), (82, Tryz.f82), (83, Tryz.f83), (181, Tryz.f181), (182, Tryz.f182), (297, Tryz.f297), (298, Tryz.f298), (299, Tryz.f299)]
theorem n16bFnsOK : FnsOK Tryz.prog n16bFns := (fnsCons Tryz.func16 (fnsCons Tryz.func82 (fnsCons Tryz.func83 (fnsCons Tryz.func181 (fnsCons Tryz.func182 (fnsCons Tryz.func297 (fnsCons Tryz.func298 (fnsCons Tryz.func299 fnsNil))))))))
theorem n16bFnsIn : n16bFns.all fnIn = true := by kernel_rfl
noncomputable def n16bTab : Tab := ⟨n16bFns, n16Tys, [(73, 2)]⟩
theorem n16bOK : TabOK Tryz.prog n16bTab := TabOK.of (by kernel_rfl) n16bFnsOK n16bFnsIn n16TysOK (extYes (yesFn n16OK n16Works) extNil)
end Go.Proofs.YtjpkccofeafkbaaGreat.Pvx
