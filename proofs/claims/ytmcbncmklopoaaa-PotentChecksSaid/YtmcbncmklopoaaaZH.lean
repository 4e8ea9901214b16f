/- Texts that lead to the law, part 8. -/
import Derived.Test.YtmcbncmklopoaaaProg
import Derived.Test.YtmcbncmklopoaaaZF
import Derived.KernelRfl
import Derived.Test.YtmcbncmklopoaaaZG

/- Printed by wip/tys.py: what the value logic is told of the types. -/
namespace Go.Fw
open Go Go.Proofs

def tys : List (Nat × TI) := [
  (3, ⟨.int .i64, 1, 8, [.int .i64 (0)]⟩),
  (23, ⟨.slice 3, 1, 24, [.slice none 0 0]⟩),
  (27, ⟨.struct [(0, 22), (1, 23), (2, 24), (3, 25)], 4, 96, [.slice none 0 0, .slice none 0 0, .slice none 0 0, .slice none 0 0]⟩),
  (70, ⟨.int .u64, 1, 8, [.int .u64 (0)]⟩),
  (4, ⟨.bool, 1, 1, [.bool false]⟩),
  (31, ⟨.struct [(0, 3), (1, 3), (2, 23)], 3, 40, [.int .i64 (0), .int .i64 (0), .slice none 0 0]⟩),
  (79, ⟨.struct [(0, 9), (1, 3), (2, 24), (3, 77)], 4, 72, [.string ⟨#[]⟩, .int .i64 (0), .slice none 0 0, .slice none 0 0]⟩),
  (139, ⟨.struct [(0, 70), (1, 70)], 2, 16, [.int .u64 (0), .int .u64 (0)]⟩),
  (33, ⟨.struct [(0, 3), (1, 23)], 2, 32, [.int .i64 (0), .slice none 0 0]⟩),
  (121, ⟨.struct [(0, 119), (1, 27), (5, 3), (6, 3), (7, 23), (8, 3)], 9, 152, [.pointer none, .slice none 0 0, .slice none 0 0, .slice none 0 0, .slice none 0 0, .int .i64 (0), .int .i64 (0), .slice none 0 0, .int .i64 (0)]⟩),
  (36, ⟨.int .i64, 1, 8, [.int .i64 (0)]⟩),
  (107, ⟨.slice 23, 1, 24, [.slice none 0 0]⟩),
  (35, ⟨.struct [(0, 4), (1, 31), (4, 33)], 6, 80, [.bool false, .int .i64 (0), .int .i64 (0), .slice none 0 0, .int .i64 (0), .slice none 0 0]⟩),
  (25, ⟨.slice 79, 1, 24, [.slice none 0 0]⟩),
  (81, ⟨.struct [(0, 3), (1, 4)], 2, 16, [.int .i64 (0), .bool false]⟩),
  (83, ⟨.struct [(0, 24), (1, 81)], 3, 40, [.slice none 0 0, .int .i64 (0), .bool false]⟩),
  (124, ⟨.struct [(0, 107), (1, 23), (2, 3), (3, 122)], 4, 64, [.slice none 0 0, .slice none 0 0, .int .i64 (0), .nilFunc]⟩),
  (119, ⟨.ptr 124, 1, 8, [.pointer none]⟩),
  (72, ⟨.struct [(0, 70), (1, 70)], 2, 16, [.int .u64 (0), .int .u64 (0)]⟩),
  (24, ⟨.slice 81, 1, 24, [.slice none 0 0]⟩),
  (22, ⟨.slice 9, 1, 24, [.slice none 0 0]⟩),
  (77, ⟨.slice 83, 1, 24, [.slice none 0 0]⟩),
  (88, ⟨.ptr 121, 1, 8, [.pointer none]⟩),
  (9, ⟨.str, 1, 16, [.string ⟨#[]⟩]⟩),
  (5, ⟨.int .u8, 1, 1, [.int .u8 (0)]⟩),
  (86, ⟨.struct [], 0, 0, []⟩),
  (144, ⟨.map 9 4, 1, 8, [.map none]⟩),
  (158, ⟨.slice 4, 1, 24, [.slice none 0 0]⟩),
  (122, ⟨.other, 1, 8, [.nilFunc]⟩),
  (164, ⟨.other, 1, 16, [.nilIface]⟩),
  (20, ⟨.other, 1, 16, [.nilIface]⟩),
  (148, ⟨.int .u64, 1, 8, [.int .u64 (0)]⟩),
  (1, ⟨.other, 1, 8, [.nilFunc]⟩),
  (2, ⟨.int .i64, 1, 8, [.int .i64 (0)]⟩),
  (6, ⟨.int .u8, 1, 1, [.int .u8 (0)]⟩),
  (7, ⟨.struct [(0, 2), (1, 3), (2, 4), (3, 6)], 4, 24, [.int .i64 (0), .int .i64 (0), .bool false, .int .u8 (0)]⟩),
  (8, ⟨.struct [(0, 2), (1, 3), (2, 4), (3, 6)], 4, 24, [.int .i64 (0), .int .i64 (0), .bool false, .int .u8 (0)]⟩),
  (10, ⟨.str, 1, 16, [.string ⟨#[]⟩]⟩),
  (11, ⟨.str, 1, 16, [.string ⟨#[]⟩]⟩),
  (12, ⟨.int .u64, 1, 8, [.int .u64 (0)]⟩),
  (13, ⟨.struct [(0, 9), (1, 12)], 2, 24, [.string ⟨#[]⟩, .int .u64 (0)]⟩),
  (14, ⟨.struct [(0, 9), (1, 12)], 2, 24, [.string ⟨#[]⟩, .int .u64 (0)]⟩),
  (15, ⟨.ptr 169, 1, 8, [.pointer none]⟩),
  (16, ⟨.ptr 172, 1, 8, [.pointer none]⟩),
  (17, ⟨.ptr 182, 1, 8, [.pointer none]⟩),
  (18, ⟨.struct [(0, 17)], 1, 8, [.pointer none]⟩),
  (19, ⟨.struct [(0, 17)], 1, 8, [.pointer none]⟩),
  (21, ⟨.int .i32, 1, 4, [.int .i32 (0)]⟩),
  (26, ⟨.struct [(0, 22), (1, 23), (2, 24), (3, 25)], 4, 96, [.slice none 0 0, .slice none 0 0, .slice none 0 0, .slice none 0 0]⟩),
  (28, ⟨.other, 1, 8, [.nilFunc]⟩),
  (29, ⟨.other, 1, 8, [.nilFunc]⟩),
  (30, ⟨.struct [(0, 3), (1, 3), (2, 23)], 3, 40, [.int .i64 (0), .int .i64 (0), .slice none 0 0]⟩),
  (32, ⟨.struct [(0, 3), (1, 23)], 2, 32, [.int .i64 (0), .slice none 0 0]⟩),
  (34, ⟨.struct [(0, 4), (1, 31), (4, 33)], 6, 80, [.bool false, .int .i64 (0), .int .i64 (0), .slice none 0 0, .int .i64 (0), .slice none 0 0]⟩),
  (38, ⟨.other, 1, 8, [.nilFunc]⟩),
  (39, ⟨.other, 1, 8, [.nilFunc]⟩),
  (40, ⟨.other, 1, 8, [.nilFunc]⟩),
  (42, ⟨.other, 1, 8, [.nilFunc]⟩),
  (43, ⟨.other, 1, 8, [.nilFunc]⟩),
  (44, ⟨.other, 1, 8, [.nilFunc]⟩),
  (45, ⟨.other, 1, 8, [.nilFunc]⟩),
  (47, ⟨.other, 1, 8, [.nilFunc]⟩),
  (48, ⟨.other, 1, 8, [.nilFunc]⟩),
  (49, ⟨.other, 1, 8, [.nilFunc]⟩),
  (50, ⟨.other, 1, 8, [.nilFunc]⟩),
  (51, ⟨.other, 1, 8, [.nilFunc]⟩),
  (52, ⟨.other, 1, 8, [.nilFunc]⟩),
  (53, ⟨.other, 1, 8, [.nilFunc]⟩),
  (54, ⟨.other, 1, 8, [.nilFunc]⟩),
  (56, ⟨.other, 1, 8, [.nilFunc]⟩),
  (58, ⟨.other, 1, 8, [.nilFunc]⟩),
  (60, ⟨.other, 1, 8, [.nilFunc]⟩),
  (61, ⟨.other, 1, 8, [.nilFunc]⟩),
  (63, ⟨.other, 1, 8, [.nilFunc]⟩),
  (64, ⟨.other, 1, 8, [.nilFunc]⟩),
  (66, ⟨.other, 1, 8, [.nilFunc]⟩),
  (67, ⟨.other, 1, 8, [.nilFunc]⟩),
  (69, ⟨.other, 1, 8, [.nilFunc]⟩),
  (71, ⟨.struct [(0, 70), (1, 70)], 2, 16, [.int .u64 (0), .int .u64 (0)]⟩),
  (73, ⟨.other, 1, 8, [.nilFunc]⟩),
  (74, ⟨.other, 1, 8, [.nilFunc]⟩),
  (75, ⟨.other, 1, 8, [.nilFunc]⟩),
  (76, ⟨.other, 1, 8, [.nilFunc]⟩),
  (78, ⟨.struct [(0, 9), (1, 3), (2, 24), (3, 77)], 4, 72, [.string ⟨#[]⟩, .int .i64 (0), .slice none 0 0, .slice none 0 0]⟩),
  (80, ⟨.struct [(0, 3), (1, 4)], 2, 16, [.int .i64 (0), .bool false]⟩),
  (82, ⟨.struct [(0, 24), (1, 81)], 3, 40, [.slice none 0 0, .int .i64 (0), .bool false]⟩),
  (84, ⟨.other, 1, 8, [.nilFunc]⟩),
  (85, ⟨.struct [], 0, 0, []⟩),
  (89, ⟨.other, 1, 8, [.nilFunc]⟩),
  (90, ⟨.other, 1, 8, [.nilFunc]⟩),
  (91, ⟨.other, 1, 8, [.nilFunc]⟩),
  (92, ⟨.other, 1, 8, [.nilFunc]⟩),
  (93, ⟨.other, 1, 8, [.nilFunc]⟩),
  (94, ⟨.other, 1, 8, [.nilFunc]⟩),
  (95, ⟨.other, 1, 8, [.nilFunc]⟩),
  (96, ⟨.other, 1, 8, [.nilFunc]⟩),
  (97, ⟨.other, 1, 8, [.nilFunc]⟩),
  (98, ⟨.other, 1, 8, [.nilFunc]⟩),
  (99, ⟨.other, 1, 8, [.nilFunc]⟩),
  (100, ⟨.other, 1, 8, [.nilFunc]⟩),
  (101, ⟨.other, 1, 8, [.nilFunc]⟩),
  (102, ⟨.other, 1, 8, [.nilFunc]⟩),
  (103, ⟨.other, 1, 8, [.nilFunc]⟩),
  (104, ⟨.other, 1, 8, [.nilFunc]⟩),
  (105, ⟨.other, 1, 8, [.nilFunc]⟩),
  (106, ⟨.other, 1, 8, [.nilFunc]⟩),
  (109, ⟨.other, 1, 8, [.nilFunc]⟩),
  (110, ⟨.other, 1, 8, [.nilFunc]⟩),
  (111, ⟨.other, 1, 8, [.nilFunc]⟩),
  (113, ⟨.other, 1, 8, [.nilFunc]⟩),
  (114, ⟨.other, 1, 8, [.nilFunc]⟩),
  (115, ⟨.other, 1, 8, [.nilFunc]⟩),
  (116, ⟨.other, 1, 8, [.nilFunc]⟩),
  (117, ⟨.other, 1, 8, [.nilFunc]⟩),
  (118, ⟨.other, 1, 8, [.nilFunc]⟩),
  (120, ⟨.struct [(0, 119), (1, 27), (5, 3), (6, 3), (7, 23), (8, 3)], 9, 152, [.pointer none, .slice none 0 0, .slice none 0 0, .slice none 0 0, .slice none 0 0, .int .i64 (0), .int .i64 (0), .slice none 0 0, .int .i64 (0)]⟩),
  (123, ⟨.struct [(0, 107), (1, 23), (2, 3), (3, 122)], 4, 64, [.slice none 0 0, .slice none 0 0, .int .i64 (0), .nilFunc]⟩),
  (125, ⟨.other, 1, 8, [.nilFunc]⟩),
  (126, ⟨.other, 1, 8, [.nilFunc]⟩),
  (127, ⟨.other, 1, 8, [.nilFunc]⟩),
  (128, ⟨.other, 1, 8, [.nilFunc]⟩),
  (129, ⟨.other, 1, 8, [.nilFunc]⟩),
  (130, ⟨.other, 1, 8, [.nilFunc]⟩),
  (131, ⟨.other, 1, 8, [.nilFunc]⟩),
  (133, ⟨.other, 1, 8, [.nilFunc]⟩),
  (134, ⟨.other, 1, 8, [.nilFunc]⟩),
  (135, ⟨.other, 1, 8, [.nilFunc]⟩),
  (136, ⟨.other, 1, 8, [.nilFunc]⟩),
  (137, ⟨.other, 1, 8, [.nilFunc]⟩),
  (138, ⟨.struct [(0, 70), (1, 70)], 2, 16, [.int .u64 (0), .int .u64 (0)]⟩),
  (140, ⟨.other, 1, 8, [.nilFunc]⟩),
  (141, ⟨.other, 1, 8, [.nilFunc]⟩),
  (142, ⟨.other, 1, 8, [.nilFunc]⟩),
  (143, ⟨.other, 1, 8, [.nilFunc]⟩),
  (145, ⟨.other, 1, 8, [.nilFunc]⟩),
  (146, ⟨.other, 1, 8, [.nilFunc]⟩),
  (147, ⟨.other, 1, 8, [.nilFunc]⟩),
  (149, ⟨.other, 1, 8, [.nilFunc]⟩),
  (150, ⟨.other, 1, 8, [.nilFunc]⟩),
  (151, ⟨.other, 1, 8, [.nilFunc]⟩),
  (152, ⟨.other, 1, 8, [.nilFunc]⟩),
  (153, ⟨.other, 1, 8, [.nilFunc]⟩),
  (154, ⟨.other, 1, 8, [.nilFunc]⟩),
  (155, ⟨.other, 1, 8, [.nilFunc]⟩),
  (156, ⟨.other, 1, 8, [.nilFunc]⟩),
  (157, ⟨.other, 1, 8, [.nilFunc]⟩),
  (159, ⟨.other, 1, 8, [.nilFunc]⟩),
  (160, ⟨.other, 1, 8, [.nilFunc]⟩),
  (161, ⟨.other, 1, 8, [.nilFunc]⟩),
  (162, ⟨.other, 1, 8, [.nilFunc]⟩),
  (163, ⟨.other, 1, 16, [.nilIface]⟩),
  (165, ⟨.other, 1, 8, [.nilFunc]⟩),
  (166, ⟨.ptr 184, 1, 8, [.pointer none]⟩),
  (167, ⟨.other, 1, 8, [.nilFunc]⟩),
  (168, ⟨.struct [(0, 17), (1, 17), (2, 17), (3, 9)], 4, 40, [.pointer none, .pointer none, .pointer none, .string ⟨#[]⟩]⟩),
  (169, ⟨.struct [(0, 17), (1, 17), (2, 17), (3, 9)], 4, 40, [.pointer none, .pointer none, .pointer none, .string ⟨#[]⟩]⟩),
  (170, ⟨.arr 0 16, 0, 0, []⟩),
  (171, ⟨.struct [(0, 170)], 0, 0, []⟩),
  (172, ⟨.struct [(0, 170)], 0, 0, []⟩),
  (173, ⟨.other, 1, 8, [.nilFunc]⟩),
  (174, ⟨.int .u32, 1, 4, [.int .u32 (0)]⟩),
  (175, ⟨.int .u8, 1, 1, [.int .u8 (0)]⟩),
  (176, ⟨.int .u8, 1, 1, [.int .u8 (0)]⟩),
  (177, ⟨.other, 1, 8, [.nilFunc]⟩),
  (178, ⟨.ptr 5, 1, 8, [.pointer none]⟩),
  (179, ⟨.int .i32, 1, 4, [.int .i32 (0)]⟩),
  (180, ⟨.int .i32, 1, 4, [.int .i32 (0)]⟩),
  (181, ⟨.struct [(0, 12), (1, 12), (2, 174), (3, 175), (4, 5), (5, 5), (6, 176), (7, 177), (8, 178), (9, 179), (10, 180)], 11, 48, [.int .u64 (0), .int .u64 (0), .int .u32 (0), .int .u8 (0), .int .u8 (0), .int .u8 (0), .int .u8 (0), .nilFunc, .pointer none, .int .i32 (0), .int .i32 (0)]⟩),
  (182, ⟨.struct [(0, 12), (1, 12), (2, 174), (3, 175), (4, 5), (5, 5), (6, 176), (7, 177), (8, 178), (9, 179), (10, 180)], 11, 48, [.int .u64 (0), .int .u64 (0), .int .u32 (0), .int .u8 (0), .int .u8 (0), .int .u8 (0), .int .u8 (0), .nilFunc, .pointer none, .int .i32 (0), .int .i32 (0)]⟩),
  (183, ⟨.struct [(0, 9)], 1, 16, [.string ⟨#[]⟩]⟩),
  (184, ⟨.struct [(0, 9)], 1, 16, [.string ⟨#[]⟩]⟩),
  (185, ⟨.other, 1, 8, [.pointer none]⟩)]

theorem tys_ok : TysOK Try.prog tys := ⟨
  ⟨by kernel_rfl, by kernel_rfl, by kernel_rfl, by kernel_rfl⟩,
  ⟨by kernel_rfl, by kernel_rfl, by kernel_rfl, by kernel_rfl⟩,
  ⟨by kernel_rfl, by kernel_rfl, by kernel_rfl, by kernel_rfl⟩,
  ⟨by kernel_rfl, by kernel_rfl, by kernel_rfl, by kernel_rfl⟩,
  ⟨by kernel_rfl, by kernel_rfl, by kernel_rfl, by kernel_rfl⟩,
  ⟨by kernel_rfl, by kernel_rfl, by kernel_rfl, by kernel_rfl⟩,
  ⟨by kernel_rfl, by kernel_rfl, by kernel_rfl, by kernel_rfl⟩,
  ⟨by kernel_rfl, by kernel_rfl, by kernel_rfl, by kernel_rfl⟩,
  ⟨by kernel_rfl, by kernel_rfl, by kernel_rfl, by kernel_rfl⟩,
  ⟨by kernel_rfl, by kernel_rfl, by kernel_rfl, by kernel_rfl⟩,
  ⟨by kernel_rfl, by kernel_rfl, by kernel_rfl, by kernel_rfl⟩,
  ⟨by kernel_rfl, by kernel_rfl, by kernel_rfl, by kernel_rfl⟩,
  ⟨by kernel_rfl, by kernel_rfl, by kernel_rfl, by kernel_rfl⟩,
  ⟨by kernel_rfl, by kernel_rfl, by kernel_rfl, by kernel_rfl⟩,
  ⟨by kernel_rfl, by kernel_rfl, by kernel_rfl, by kernel_rfl⟩,
  ⟨by kernel_rfl, by kernel_rfl, by kernel_rfl, by kernel_rfl⟩,
  ⟨by kernel_rfl, by kernel_rfl, by kernel_rfl, by kernel_rfl⟩,
  ⟨by kernel_rfl, by kernel_rfl, by kernel_rfl, by kernel_rfl⟩,
  ⟨by kernel_rfl, by kernel_rfl, by kernel_rfl, by kernel_rfl⟩,
  ⟨by kernel_rfl, by kernel_rfl, by kernel_rfl, by kernel_rfl⟩,
  ⟨by kernel_rfl, by kernel_rfl, by kernel_rfl, by kernel_rfl⟩,
  ⟨by kernel_rfl, by kernel_rfl, by kernel_rfl, by kernel_rfl⟩,
  ⟨by kernel_rfl, by kernel_rfl, by kernel_rfl, by kernel_rfl⟩,
  ⟨by kernel_rfl, by kernel_rfl, by kernel_rfl, by kernel_rfl⟩,
  ⟨by kernel_rfl, by kernel_rfl, by kernel_rfl, by kernel_rfl⟩,
  ⟨by kernel_rfl, by kernel_rfl, by kernel_rfl, by kernel_rfl⟩,
  ⟨by kernel_rfl, by kernel_rfl, by kernel_rfl, by kernel_rfl⟩,
  ⟨by kernel_rfl, by kernel_rfl, by kernel_rfl, by kernel_rfl⟩,
  ⟨by kernel_rfl, by kernel_rfl, by kernel_rfl, by kernel_rfl⟩,
  ⟨by kernel_rfl, by kernel_rfl, by kernel_rfl, by kernel_rfl⟩,
  ⟨by kernel_rfl, by kernel_rfl, by kernel_rfl, by kernel_rfl⟩,
  ⟨by kernel_rfl, by kernel_rfl, by kernel_rfl, by kernel_rfl⟩,
  ⟨by kernel_rfl, by kernel_rfl, by kernel_rfl, by kernel_rfl⟩,
  ⟨by kernel_rfl, by kernel_rfl, by kernel_rfl, by kernel_rfl⟩,
  ⟨by kernel_rfl, by kernel_rfl, by kernel_rfl, by kernel_rfl⟩,
  ⟨by kernel_rfl, by kernel_rfl, by kernel_rfl, by kernel_rfl⟩,
  ⟨by kernel_rfl, by kernel_rfl, by kernel_rfl, by kernel_rfl⟩,
  ⟨by kernel_rfl, by kernel_rfl, by kernel_rfl, by kernel_rfl⟩,
  ⟨by kernel_rfl, by kernel_rfl, by kernel_rfl, by kernel_rfl⟩,
  ⟨by kernel_rfl, by kernel_rfl, by kernel_rfl, by kernel_rfl⟩,
  ⟨by kernel_rfl, by kernel_rfl, by kernel_rfl, by kernel_rfl⟩,
  ⟨by kernel_rfl, by kernel_rfl, by kernel_rfl, by kernel_rfl⟩,
  ⟨by kernel_rfl, by kernel_rfl, by kernel_rfl, by kernel_rfl⟩,
  ⟨by kernel_rfl, by kernel_rfl, by kernel_rfl, by kernel_rfl⟩,
  ⟨by kernel_rfl, by kernel_rfl, by kernel_rfl, by kernel_rfl⟩,
  ⟨by kernel_rfl, by kernel_rfl, by kernel_rfl, by kernel_rfl⟩,
  ⟨by kernel_rfl, by kernel_rfl, by kernel_rfl, by kernel_rfl⟩,
  ⟨by kernel_rfl, by kernel_rfl, by kernel_rfl, by kernel_rfl⟩,
  ⟨by kernel_rfl, by kernel_rfl, by kernel_rfl, by kernel_rfl⟩,
  ⟨by kernel_rfl, by kernel_rfl, by kernel_rfl, by kernel_rfl⟩,
  ⟨by kernel_rfl, by kernel_rfl, by kernel_rfl, by kernel_rfl⟩,
  ⟨by kernel_rfl, by kernel_rfl, by kernel_rfl, by kernel_rfl⟩,
  ⟨by kernel_rfl, by kernel_rfl, by kernel_rfl, by kernel_rfl⟩,
  ⟨by kernel_rfl, by kernel_rfl, by kernel_rfl, by kernel_rfl⟩,
  ⟨by kernel_rfl, by kernel_rfl, by kernel_rfl, by kernel_rfl⟩,
  ⟨by kernel_rfl, by kernel_rfl, by kernel_rfl, by kernel_rfl⟩,
  ⟨by kernel_rfl, by kernel_rfl, by kernel_rfl, by kernel_rfl⟩,
  ⟨by kernel_rfl, by kernel_rfl, by kernel_rfl, by kernel_rfl⟩,
  ⟨by kernel_rfl, by kernel_rfl, by kernel_rfl, by kernel_rfl⟩,
  ⟨by kernel_rfl, by kernel_rfl, by kernel_rfl, by kernel_rfl⟩,
  ⟨by kernel_rfl, by kernel_rfl, by kernel_rfl, by kernel_rfl⟩,
  ⟨by kernel_rfl, by kernel_rfl, by kernel_rfl, by kernel_rfl⟩,
  ⟨by kernel_rfl, by kernel_rfl, by kernel_rfl, by kernel_rfl⟩,
  ⟨by kernel_rfl, by kernel_rfl, by kernel_rfl, by kernel_rfl⟩,
  ⟨by kernel_rfl, by kernel_rfl, by kernel_rfl, by kernel_rfl⟩,
  ⟨by kernel_rfl, by kernel_rfl, by kernel_rfl, by kernel_rfl⟩,
  ⟨by kernel_rfl, by kernel_rfl, by kernel_rfl, by kernel_rfl⟩,
  ⟨by kernel_rfl, by kernel_rfl, by kernel_rfl, by kernel_rfl⟩,
  ⟨by kernel_rfl, by kernel_rfl, by kernel_rfl, by kernel_rfl⟩,
  ⟨by kernel_rfl, by kernel_rfl, by kernel_rfl, by kernel_rfl⟩,
  ⟨by kernel_rfl, by kernel_rfl, by kernel_rfl, by kernel_rfl⟩,
  ⟨by kernel_rfl, by kernel_rfl, by kernel_rfl, by kernel_rfl⟩,
  ⟨by kernel_rfl, by kernel_rfl, by kernel_rfl, by kernel_rfl⟩,
  ⟨by kernel_rfl, by kernel_rfl, by kernel_rfl, by kernel_rfl⟩,
  ⟨by kernel_rfl, by kernel_rfl, by kernel_rfl, by kernel_rfl⟩,
  ⟨by kernel_rfl, by kernel_rfl, by kernel_rfl, by kernel_rfl⟩,
  ⟨by kernel_rfl, by kernel_rfl, by kernel_rfl, by kernel_rfl⟩,
  ⟨by kernel_rfl, by kernel_rfl, by kernel_rfl, by kernel_rfl⟩,
  ⟨by kernel_rfl, by kernel_rfl, by kernel_rfl, by kernel_rfl⟩,
  ⟨by kernel_rfl, by kernel_rfl, by kernel_rfl, by kernel_rfl⟩,
  ⟨by kernel_rfl, by kernel_rfl, by kernel_rfl, by kernel_rfl⟩,
  ⟨by kernel_rfl, by kernel_rfl, by kernel_rfl, by kernel_rfl⟩,
  ⟨by kernel_rfl, by kernel_rfl, by kernel_rfl, by kernel_rfl⟩,
  ⟨by kernel_rfl, by kernel_rfl, by kernel_rfl, by kernel_rfl⟩,
  ⟨by kernel_rfl, by kernel_rfl, by kernel_rfl, by kernel_rfl⟩,
  ⟨by kernel_rfl, by kernel_rfl, by kernel_rfl, by kernel_rfl⟩,
  ⟨by kernel_rfl, by kernel_rfl, by kernel_rfl, by kernel_rfl⟩,
  ⟨by kernel_rfl, by kernel_rfl, by kernel_rfl, by kernel_rfl⟩,
  ⟨by kernel_rfl, by kernel_rfl, by kernel_rfl, by kernel_rfl⟩,
  ⟨by kernel_rfl, by kernel_rfl, by kernel_rfl, by kernel_rfl⟩,
  ⟨by kernel_rfl, by kernel_rfl, by kernel_rfl, by kernel_rfl⟩,
  ⟨by kernel_rfl, by kernel_rfl, by kernel_rfl, by kernel_rfl⟩,
  ⟨by kernel_rfl, by kernel_rfl, by kernel_rfl, by kernel_rfl⟩,
  ⟨by kernel_rfl, by kernel_rfl, by kernel_rfl, by kernel_rfl⟩,
  ⟨by kernel_rfl, by kernel_rfl, by kernel_rfl, by kernel_rfl⟩,
  ⟨by kernel_rfl, by kernel_rfl, by kernel_rfl, by kernel_rfl⟩,
  ⟨by kernel_rfl, by kernel_rfl, by kernel_rfl, by kernel_rfl⟩,
  ⟨by kernel_rfl, by kernel_rfl, by kernel_rfl, by kernel_rfl⟩,
  ⟨by kernel_rfl, by kernel_rfl, by kernel_rfl, by kernel_rfl⟩,
  ⟨by kernel_rfl, by kernel_rfl, by kernel_rfl, by kernel_rfl⟩,
  ⟨by kernel_rfl, by kernel_rfl, by kernel_rfl, by kernel_rfl⟩,
  ⟨by kernel_rfl, by kernel_rfl, by kernel_rfl, by kernel_rfl⟩,
  ⟨by kernel_rfl, by kernel_rfl, by kernel_rfl, by kernel_rfl⟩,
  ⟨by kernel_rfl, by kernel_rfl, by kernel_rfl, by kernel_rfl⟩,
  ⟨by kernel_rfl, by kernel_rfl, by kernel_rfl, by kernel_rfl⟩,
  ⟨by kernel_rfl, by kernel_rfl, by kernel_rfl, by kernel_rfl⟩,
  ⟨by kernel_rfl, by kernel_rfl, by kernel_rfl, by kernel_rfl⟩,
  ⟨by kernel_rfl, by kernel_rfl, by kernel_rfl, by kernel_rfl⟩,
  ⟨by kernel_rfl, by kernel_rfl, by kernel_rfl, by kernel_rfl⟩,
  ⟨by kernel_rfl, by kernel_rfl, by kernel_rfl, by kernel_rfl⟩,
  ⟨by kernel_rfl, by kernel_rfl, by kernel_rfl, by kernel_rfl⟩,
  ⟨by kernel_rfl, by kernel_rfl, by kernel_rfl, by kernel_rfl⟩,
  ⟨by kernel_rfl, by kernel_rfl, by kernel_rfl, by kernel_rfl⟩,
  ⟨by kernel_rfl, by kernel_rfl, by kernel_rfl, by kernel_rfl⟩,
  ⟨by kernel_rfl, by kernel_rfl, by kernel_rfl, by kernel_rfl⟩,
  ⟨by kernel_rfl, by kernel_rfl, by kernel_rfl, by kernel_rfl⟩,
  ⟨by kernel_rfl, by kernel_rfl, by kernel_rfl, by kernel_rfl⟩,
  ⟨by kernel_rfl, by kernel_rfl, by kernel_rfl, by kernel_rfl⟩,
  ⟨by kernel_rfl, by kernel_rfl, by kernel_rfl, by kernel_rfl⟩,
  ⟨by kernel_rfl, by kernel_rfl, by kernel_rfl, by kernel_rfl⟩,
  ⟨by kernel_rfl, by kernel_rfl, by kernel_rfl, by kernel_rfl⟩,
  ⟨by kernel_rfl, by kernel_rfl, by kernel_rfl, by kernel_rfl⟩,
  ⟨by kernel_rfl, by kernel_rfl, by kernel_rfl, by kernel_rfl⟩,
  ⟨by kernel_rfl, by kernel_rfl, by kernel_rfl, by kernel_rfl⟩,
  ⟨by kernel_rfl, by kernel_rfl, by kernel_rfl, by kernel_rfl⟩,
  ⟨by kernel_rfl, by kernel_rfl, by kernel_rfl, by kernel_rfl⟩,
  ⟨by kernel_rfl, by kernel_rfl, by kernel_rfl, by kernel_rfl⟩,
  ⟨by kernel_rfl, by kernel_rfl, by kernel_rfl, by kernel_rfl⟩,
  ⟨by kernel_rfl, by kernel_rfl, by kernel_rfl, by kernel_rfl⟩,
  ⟨by kernel_rfl, by kernel_rfl, by kernel_rfl, by kernel_rfl⟩,
  ⟨by kernel_rfl, by kernel_rfl, by kernel_rfl, by kernel_rfl⟩,
  ⟨by kernel_rfl, by kernel_rfl, by kernel_rfl, by kernel_rfl⟩,
  ⟨by kernel_rfl, by kernel_rfl, by kernel_rfl, by kernel_rfl⟩,
  ⟨by kernel_rfl, by kernel_rfl, by kernel_rfl, by kernel_rfl⟩,
  ⟨by kernel_rfl, by kernel_rfl, by kernel_rfl, by kernel_rfl⟩,
  ⟨by kernel_rfl, by kernel_rfl, by kernel_rfl, by kernel_rfl⟩,
  ⟨by kernel_rfl, by kernel_rfl, by kernel_rfl, by kernel_rfl⟩,
  ⟨by kernel_rfl, by kernel_rfl, by kernel_rfl, by kernel_rfl⟩,
  ⟨by kernel_rfl, by kernel_rfl, by kernel_rfl, by kernel_rfl⟩,
  ⟨by kernel_rfl, by kernel_rfl, by kernel_rfl, by kernel_rfl⟩,
  ⟨by kernel_rfl, by kernel_rfl, by kernel_rfl, by kernel_rfl⟩,
  ⟨by kernel_rfl, by kernel_rfl, by kernel_rfl, by kernel_rfl⟩,
  ⟨by kernel_rfl, by kernel_rfl, by kernel_rfl, by kernel_rfl⟩,
  ⟨by kernel_rfl, by kernel_rfl, by kernel_rfl, by kernel_rfl⟩,
  ⟨by kernel_rfl, by kernel_rfl, by kernel_rfl, by kernel_rfl⟩,
  ⟨by kernel_rfl, by kernel_rfl, by kernel_rfl, by kernel_rfl⟩,
  ⟨by kernel_rfl, by kernel_rfl, by kernel_rfl, by kernel_rfl⟩,
  ⟨by kernel_rfl, by kernel_rfl, by kernel_rfl, by kernel_rfl⟩,
  ⟨by kernel_rfl, by kernel_rfl, by kernel_rfl, by kernel_rfl⟩,
  ⟨by kernel_rfl, by kernel_rfl, by kernel_rfl, by kernel_rfl⟩,
  ⟨by kernel_rfl, by kernel_rfl, by kernel_rfl, by kernel_rfl⟩,
  ⟨by kernel_rfl, by kernel_rfl, by kernel_rfl, by kernel_rfl⟩,
  ⟨by kernel_rfl, by kernel_rfl, by kernel_rfl, by kernel_rfl⟩,
  ⟨by kernel_rfl, by kernel_rfl, by kernel_rfl, by kernel_rfl⟩,
  ⟨by kernel_rfl, by kernel_rfl, by kernel_rfl, by kernel_rfl⟩,
  ⟨by kernel_rfl, by kernel_rfl, by kernel_rfl, by kernel_rfl⟩,
  ⟨by kernel_rfl, by kernel_rfl, by kernel_rfl, by kernel_rfl⟩,
  ⟨by kernel_rfl, by kernel_rfl, by kernel_rfl, by kernel_rfl⟩,
  ⟨by kernel_rfl, by kernel_rfl, by kernel_rfl, by kernel_rfl⟩,
  ⟨by kernel_rfl, by kernel_rfl, by kernel_rfl, by kernel_rfl⟩,
  ⟨by kernel_rfl, by kernel_rfl, by kernel_rfl, by kernel_rfl⟩,
  ⟨by kernel_rfl, by kernel_rfl, by kernel_rfl, by kernel_rfl⟩,
  ⟨by kernel_rfl, by kernel_rfl, by kernel_rfl, by kernel_rfl⟩,
  ⟨by kernel_rfl, by kernel_rfl, by kernel_rfl, by kernel_rfl⟩,
  ⟨by kernel_rfl, by kernel_rfl, by kernel_rfl, by kernel_rfl⟩,
  ⟨by kernel_rfl, by kernel_rfl, by kernel_rfl, by kernel_rfl⟩,
  ⟨by kernel_rfl, by kernel_rfl, by kernel_rfl, by kernel_rfl⟩,
  ⟨by kernel_rfl, by kernel_rfl, by kernel_rfl, by kernel_rfl⟩,
  ⟨by kernel_rfl, by kernel_rfl, by kernel_rfl, by kernel_rfl⟩,
  ⟨by kernel_rfl, by kernel_rfl, by kernel_rfl, by kernel_rfl⟩,
  ⟨by kernel_rfl, by kernel_rfl, by kernel_rfl, by kernel_rfl⟩,
  ⟨by kernel_rfl, by kernel_rfl, by kernel_rfl, by kernel_rfl⟩,
  trivial⟩

end Go.Fw

/- What is told of the program. -/
namespace Go.Fw
open Go Go.Proofs

/-! ### The context -/
def cx : Ctx := { tys := tys, eqs := [(81, [.int .i64, .bool]), (139, [.int .u64, .int .u64]), (72, [.int .u64, .int .u64])], exts := [(118, 1)], exb := [(97, 1), (112, 1)] }
theorem ext118 (s : ByteArray) (c : Int) (w : World) : (callFunc 118 #[.string s, .int .u8 c]).run Try.prog w = .ok (.value (.int .i64 (Lib.indexByte s.data.toList c.toNat.toUInt8))) w := by
  rw [run_callFunc_extern (P := Try.prog) (f := 118) (fn := Try.f118) (e := Extern.BytealgIndexByte.indexByte) (by kernel_rfl) (by kernel_rfl) (by kernel_rfl) (by kernel_rfl) (by kernel_rfl), Lib.run_indexByteString]
  rfl
theorem cx_eqs : ∀ t ds, look cx.eqs t = some ds → Try.prog.eqGuardType Try.prog.depth t = false ∧
    ∀ (w : World) (xs ys : List Value) (r : Bool), eqVs ds xs ys = some r → (Op.equalIn 10000 t (.agg xs.toArray) (.agg ys.toArray)).run Try.prog w = .ok r w := fun t n h => by
  simp only [cx, look] at h
  split at h
  · rename_i ht
    cases h
    have : t = 81 := by have := Nat.eq_of_beq_eq_true ht; exact this.symm
    subst this
    exact ⟨by kernel_rfl, eqs_fields tys_ok (by kernel_rfl) (by kernel_rfl) (by kernel_rfl)⟩
  split at h
  · rename_i ht
    cases h
    have : t = 139 := by have := Nat.eq_of_beq_eq_true ht; exact this.symm
    subst this
    exact ⟨by kernel_rfl, eqs_fields tys_ok (by kernel_rfl) (by kernel_rfl) (by kernel_rfl)⟩
  split at h
  · rename_i ht
    cases h
    have : t = 72 := by have := Nat.eq_of_beq_eq_true ht; exact this.symm
    subst this
    exact ⟨by kernel_rfl, eqs_fields tys_ok (by kernel_rfl) (by kernel_rfl) (by kernel_rfl)⟩
  · cases h
theorem cx_exts : ∀ f k, look cx.exts f = some k → ∀ (s : ByteArray) (c : Int) (w : World), (callFunc f #[.string s, .int .u8 c]).run Try.prog w = .ok (.value (.int .i64 (Lib.indexByte s.data.toList c.toNat.toUInt8))) w := fun f k h => by
  simp only [cx, look] at h
  split at h
  · rename_i ht
    have : f = 118 := by have := Nat.eq_of_beq_eq_true ht; exact this.symm
    subst this
    exact ext118
  · cases h
theorem cx_srt : ∀ f k, look cx.srt f = some k → SortOK Try.prog f := fun f k h => by cases h
theorem cx_ok : cx.OK Try.prog := ⟨by kernel_rfl, tys_ok, cx_eqs, cx_exts, cx_srt⟩
/-- The same, where sums may wrap. -/
def cxw : Ctx := { cx with wrap := true }
theorem cxw_ok : cxw.OK Try.prog := ⟨cx_ok.mixed, cx_ok.tys, cx_ok.eqs, cx_ok.exts, cx_ok.srt⟩
abbrev modH (P : Program) : HW := fun f args _ env st K' => ModH P f args env st K'
theorem mH_ok {P : Program} : HOK P (modH P) := modH_ok
def tailC : Nat → Code → Code
  | n + 1, .seq _ b => tailC n b
  | _, c => c

end Go.Fw

/- What the program's functions do, part 1: lists of numbers and literals. -/
namespace Go.Fw
open Go Go.Proofs
set_option maxRecDepth 10000

def od20 : Od := [(6, [(0, .pure), (1, .pure), (2, .pure), (3, .pure), (4, .pure), (5, .pure), (6, .pure), (7, .pure), (8, .pure)])]
def kp20 : Kp := [(4, ([0, 1, 12, 13], []))]

theorem f20_spec (n1 n2 : Bool) (l m : List Int) (out : List Fr) : SpecP Try.prog 20 [.ints n1 l, .ints n2 m] out fun r ro => r = .bool (l == m) ∧ ro = [] := by
  refine spec_body cx_ok kp20 od20 (fn := Try.f20) (by kernel_rfl) rfl (by kernel_rfl) rfl (by unfold FnOK; kernel_rfl) fun hok => ?_
  refine And.intro (fun h => ?_) fun h => ?_
  · refine Exists.intro [] (And.intro ?_ rfl)
    have : l ≠ m := by rintro rfl; simp at h
    show LV.t (.v (.bool false)) = .t (.v (.bool (l == m)))
    simp [this]
  · have hlen : l.length = m.length := by simp at h; omega
    have hmx := le_max hok.1.1
    refine LoopW.mk Nat (fun i => i ≤ l.length ∧ l.take i = m.take i) (fun i => [(0, .ints n1 l), (1, .ints n2 m), (12, .int (l.map tI).length), (13, .int i)]) (fun _ => ⟨out, []⟩) (fun i => l.length - i) 0 ⟨Nat.zero_le _, rfl⟩ ⟨rfl, rfl⟩ fun i hI => ?_
    refine And.intro (fun h1 => ?_) fun h1 => ?_
    · have hi := lt_of_dec h1
      have hi2 : i < m.length := by omega
      refine And.intro (by omega) (Exists.intro _ (And.intro (get_map hi) ?_))
      refine And.intro (by omega) (Exists.intro _ (And.intro (get_map hi2) ?_))
      refine And.intro (fun h2 => ?_) fun h2 => ?_
      · refine Exists.intro [] (And.intro ?_ rfl)
        have : l ≠ m := by rintro rfl; simp at h2
        show LV.t (.v (.bool false)) = .t (.v (.bool (l == m)))
        simp [this]
      · have h3 : l[i] = m[i] := by simpa using h2
        refine And.intro (by omega) (And.intro (by omega) ?_)
        refine Exists.intro (i + 1) (And.intro (by show l.length - (i + 1) < l.length - i; omega) (And.intro ⟨hi, ?_⟩ (And.intro rfl rfl)))
        rw [List.take_add_one, List.take_add_one, hI.2]; simp [hi, hi2, h3]
    · have hi : i = l.length := by have := hI.1; have := ge_of_dec h1; omega
      refine Exists.intro [] (And.intro ?_ rfl)
      have : l = m := by have := hI.2; rw [hi, List.take_length, hlen, List.take_length] at this; exact this
      show LV.t (.v (.bool true)) = .t (.v (.bool (l == m)))
      simp [this]

/-! ### Has, Holds -/
def hasB (l : List Int) (x : Int) : Bool := l.any (· == x)
def od55 : Od := []
def kp55 : Kp := [(2, ([1, 7, 8, 9], []))]
theorem f55_spec (n1 : Bool) (l : List Int) (x : Int) (out : List Fr) : SpecP Try.prog 55 [.ints n1 l, .int x] out fun r ro => r = .bool (hasB l x) ∧ ro = [] := by
  refine spec_body cx_ok kp55 od55 (fn := Try.f55) (by kernel_rfl) rfl (by kernel_rfl) rfl (by unfold FnOK; kernel_rfl) fun hok => ?_
  have hmx := le_max hok.1.1
  refine LoopW.mk Nat (fun i => i ≤ l.length ∧ (l.take i).any (· == x) = false) (fun i => [(1, .int x), (7, .ints n1 l), (8, .int (l.map tI).length), (9, .int i)]) (fun _ => ⟨out, []⟩) (fun i => l.length - i) 0 ⟨Nat.zero_le _, rfl⟩ ⟨rfl, rfl⟩ fun i hI => ?_
  refine And.intro (fun h1 => ?_) fun h1 => ?_
  · have hi := lt_of_dec h1
    refine And.intro (by omega) (Exists.intro _ (And.intro (get_map hi) ?_))
    refine And.intro (fun h2 => ?_) fun h2 => ?_
    · refine Exists.intro [] (And.intro ?_ rfl)
      have : hasB l x = true := List.any_eq_true.2 ⟨l[i], List.getElem_mem hi, h2⟩
      rw [this]; rfl
    · refine And.intro (by omega) (And.intro (by omega) ?_)
      refine Exists.intro (i + 1) (And.intro (by show l.length - (i + 1) < l.length - i; omega) (And.intro ⟨hi, ?_⟩ (And.intro rfl rfl)))
      rw [List.take_add_one, List.any_append, hI.2]; simpa [hi] using h2
  · have hi : i = l.length := by have := hI.1; have := ge_of_dec h1; omega
    refine Exists.intro [] (And.intro ?_ rfl)
    have : hasB l x = false := by have := hI.2; rw [hi, List.take_length] at this; exact this
    rw [this]; rfl

def holdsB (s : List Int) (l : List Lit) : Bool := l.all fun x => hasB s x.fact != x.neg
def od63 : Od := [(4, [(0, .pure), (1, .pure), (2, .pure), (4, .pure), (5, .pure), (3, .eff), (6, .pure)])]
def kp63 : Kp := [(2, ([0, 7, 8, 9], []))]
theorem f63_spec (n1 n2 : Bool) (s : List Int) (l : List Lit) (out : List Fr) : SpecP Try.prog 63 [.ints n1 s, .lits n2 l] out fun r ro => r = .bool (holdsB s l) ∧ ro = [] := by
  refine spec_body cx_ok kp63 od63 (fn := Try.f63) (by kernel_rfl) rfl (by kernel_rfl) rfl (by unfold FnOK; kernel_rfl) fun hok => ?_
  have hmx := le_max hok.2.1.1
  refine LoopW.mk Nat (fun i => i ≤ l.length ∧ (l.take i).all (fun x => hasB s x.fact != x.neg) = true) (fun i => [(0, .ints n1 s), (7, .lits n2 l), (8, .int (l.map tLit).length), (9, .int i)]) (fun _ => ⟨out, []⟩) (fun i => l.length - i) 0 ⟨Nat.zero_le _, rfl⟩ ⟨rfl, rfl⟩ fun i hI => ?_
  refine And.intro (fun h1 => ?_) fun h1 => ?_
  · have hi := lt_of_dec h1
    refine And.intro (by omega) (Exists.intro _ (And.intro (get_map hi) ?_))
    refine And.intro (fun h2 => ?_) fun h2 => ?_
    · refine SpecP.mono (f55_spec n1 s l[i].fact []) ?_
      rintro r ro ⟨rfl, rfl⟩
      refine And.intro ⟨rfl, rfl, rfl⟩ (And.intro (fun h3 => ?_) fun h3 => ?_)
      · refine And.intro (fun _ => ?_) fun h => Bool.noConfusion h
        exact Exists.intro [] (ret_bool (all_false hi (by simp [h2, h3])) rfl)
      · refine And.intro (fun h => Bool.noConfusion h) fun _ => ?_
        refine And.intro (by omega) (And.intro (by omega) ?_)
        exact Exists.intro (i + 1) (And.intro (by show l.length - (i + 1) < l.length - i; omega) (And.intro ⟨hi, all_step hi hI.2 (by simp [h2, h3])⟩ (And.intro rfl rfl)))
    · refine SpecP.mono (f55_spec n1 s l[i].fact []) ?_
      rintro r ro ⟨rfl, rfl⟩
      refine And.intro ⟨rfl, rfl, rfl⟩ (And.intro (fun h3 => ?_) fun h3 => ?_)
      · refine And.intro (fun h => Bool.noConfusion h) fun _ => ?_
        refine And.intro (by omega) (And.intro (by omega) ?_)
        exact Exists.intro (i + 1) (And.intro (by show l.length - (i + 1) < l.length - i; omega) (And.intro ⟨hi, all_step hi hI.2 (by simp [h2, h3])⟩ (And.intro rfl rfl)))
      · refine And.intro (fun _ => ?_) fun h => Bool.noConfusion h
        exact Exists.intro [] (ret_bool (all_false hi (by simp [h2, h3])) rfl)
  · have hi : i = l.length := by have := hI.1; have := ge_of_dec h1; omega
    refine Exists.intro [] (And.intro ?_ rfl)
    have : holdsB s l = true := by have := hI.2; rw [hi, List.take_length] at this; exact this
    rw [this]; rfl

end Go.Fw

/- What the program's functions do, part 2: codes of literals; lists that rise. -/
namespace Go.Fw
open Go Go.Proofs
set_option maxRecDepth 10000

def codeI (l : Lit) : Int := if l.neg then 2 * l.fact + 1 else 2 * l.fact
def litI (n : Int) : Lit := ⟨n.tdiv 2, n.tmod 2 == 1⟩
def big (n : Int) : Prop := -4611686018427387000 ≤ n ∧ n ≤ 4611686018427387000

def od18 : Od := [(6, [(0, .pure), (1, .pure), (2, .pure), (3, .pure), (4, .pure), (5, .pure), (6, .pure), (7, .pure), (8, .pure)])]
/-! ### Rising lists -/
def at0 (l : List Int) (i : Nat) : Int := l.getD i 0
def chkI (l : List Int) (n : Int) (i : Nat) : Bool := decide (0 ≤ at0 l i) && decide (at0 l i < n) && (i == 0 || decide (at0 l (i - 1) < at0 l i))
def risingB (l : List Int) (n : Int) : Bool := (List.range l.length).all (chkI l n)
theorem range_step {p : Nat → Bool} {i : Nat} (h : (List.range i).all p = true) (h2 : p i = true) : (List.range (i + 1)).all p = true := by
  rw [List.range_succ, List.all_append, h]; simp [h2]
theorem range_false {p : Nat → Bool} {i n : Nat} (hi : i < n) (h : p i = false) : (List.range n).all p = false := by
  cases hh : (List.range n).all p with
  | false => rfl
  | true => rw [List.all_eq_true.1 hh i (List.mem_range.2 hi)] at h; cases h
theorem at0_eq {l : List Int} {i : Nat} (h : i < l.length) : at0 l i = l[i] := by simp [at0, h]
theorem get_pred {α β : Type} {l : List α} {f : α → β} {i : Nat} (h : i < l.length) (h0 : 0 < i) : (l.map f)[((i : Int) - 1).toNat]? = some (f (l[i - 1]'(by omega))) := by
  have : ((i : Int) - 1).toNat = i - 1 := by omega
  rw [this]; simp [show i - 1 < l.length by omega]

def kp52 : Kp := [(2, ([0, 1, 7, 8, 9], []))]
theorem f52_spec (n1 : Bool) (l : List Int) (n : Int) (out : List Fr) : SpecP Try.prog 52 [.ints n1 l, .int n] out fun r ro => r = .bool (risingB l n) ∧ ro = [] := by
  refine spec_body cx_ok kp52 [] (fn := Try.f52) (by kernel_rfl) rfl (by kernel_rfl) rfl (by unfold FnOK; kernel_rfl) fun hok => ?_
  have hmx := le_max hok.1.1
  refine LoopW.mk Nat (fun i => i ≤ l.length ∧ (List.range i).all (chkI l n) = true) (fun i => [(0, .ints n1 l), (1, .int n), (7, .ints n1 l), (8, .int (l.map tI).length), (9, .int i)]) (fun _ => ⟨out, []⟩) (fun i => l.length - i) 0 ⟨Nat.zero_le _, rfl⟩ ⟨rfl, rfl⟩ fun i hI => ?_
  refine And.intro (fun h1 => ?_) fun h1 => ?_
  · have hi := lt_of_dec h1
    have ha := at0_eq hi
    refine And.intro (by omega) (Exists.intro _ (And.intro (get_map hi) ?_))
    refine And.intro (fun h2 => ?_) fun h2 => ?_
    · exact Exists.intro [] (ret_bool (range_false hi (by simp [chkI, ha]; simp at h2; omega)) rfl)
    · refine And.intro (fun h3 => ?_) fun h3 => ?_
      · exact Exists.intro [] (ret_bool (range_false hi (by simp [chkI, ha]; simp at h2 h3; omega)) rfl)
      · refine And.intro (fun h4 => ?_) fun h4 => ?_
        · have h0 : 0 < i := by simp at h4; omega
          have hp := at0_eq (l := l) (i := i - 1) (by omega)
          refine And.intro (by omega) (And.intro (by omega) (And.intro (by omega) (Exists.intro _ (And.intro (get_pred hi h0) ?_))))
          refine And.intro (fun h5 => ?_) fun h5 => ?_
          · exact Exists.intro [] (ret_bool (range_false hi (by simp [chkI, ha, hp]; simp at h2 h3 h5; omega)) rfl)
          · refine And.intro (by omega) (And.intro (by omega) ?_)
            exact Exists.intro (i + 1) (And.intro (by show l.length - (i + 1) < l.length - i; omega) (And.intro ⟨hi, range_step hI.2 (by simp [chkI, ha, hp]; simp at h2 h3 h5; omega)⟩ (And.intro rfl rfl)))
        · have h0 : i = 0 := by simp at h4; omega
          refine And.intro (by omega) (And.intro (by omega) ?_)
          exact Exists.intro (i + 1) (And.intro (by show l.length - (i + 1) < l.length - i; omega) (And.intro ⟨hi, range_step hI.2 (by simp [chkI, ha]; simp at h2 h3; omega)⟩ (And.intro rfl rfl)))
  · have hi : i = l.length := by have := hI.1; have := ge_of_dec h1; omega
    exact Exists.intro [] (ret_bool (by have := hI.2; rw [hi] at this; exact this) rfl)

end Go.Fw

/- What the program's functions do, part 3: names. -/
namespace Go.Fw
open Go Go.Proofs
set_option maxRecDepth 10000

abbrev LV.str (s : ByteArray) : LV := .t (.v (.string s))
abbrev LV.byte (c : Int) : LV := .t (.v (.int .u8 c))
def byAt (s : ByteArray) (i : Nat) : Int := ((s.data[i]?.getD 0).toNat : Int)
theorem byAt_get {s : ByteArray} {i : Nat} (h : i < s.size) : s.data[((i : Int)).toNat]? = some (s.data[i]?.getD 0) := by
  have : i < s.data.size := h
  simp only [Int.toNat_natCast]
  rw [Array.getElem?_eq_getElem this]; rfl

def letterB (c : Int) : Bool := (decide (97 ≤ c) && decide (c ≤ 122)) || (decide (65 ≤ c) && decide (c ≤ 90))
def digitB (c : Int) : Bool := decide (48 ≤ c) && decide (c ≤ 57)
def withinB (s : ByteArray) (c : Int) : Bool := (List.range s.size).any fun i => byAt s i == c
def punct : ByteArray := ⟨#[45, 95, 40, 41, 44]⟩
def okB (c : Int) : Bool := letterB c || digitB c || withinB punct c
def nameB (s : ByteArray) : Bool := decide (1 ≤ s.size) && decide (s.size ≤ 40) && letterB (byAt s 0) && (List.range s.size).all fun i => okB (byAt s i)

theorem f106_spec (c : Int) (out : List Fr) : SpecP Try.prog 106 [.byte c] out fun r ro => r = .bool (letterB c) ∧ ro = [] := by
  refine spec_body cx_ok [] [] (fn := Try.f106) (by kernel_rfl) rfl (by kernel_rfl) rfl (by unfold FnOK; kernel_rfl) fun hok => ?_
  refine And.intro (fun h1 => ?_) fun h1 => ?_
  · refine And.intro (fun h2 => ?_) fun h2 => ?_
    · exact Exists.intro [] (ret_bool (by simp [letterB]; simp at h1 h2; omega) rfl)
    · refine And.intro (fun h3 => ?_) fun h3 => ?_
      · refine And.intro (fun h4 => ?_) fun h4 => ?_
        · exact Exists.intro [] (ret_bool (by simp [letterB]; simp at h1 h2 h3 h4; omega) rfl)
        · exact Exists.intro [] (ret_bool (by simp [letterB]; simp at h1 h2 h3 h4; omega) rfl)
      · exact Exists.intro [] (ret_bool (by simp [letterB]; simp at h1 h2 h3; omega) rfl)
  · refine And.intro (fun h3 => ?_) fun h3 => ?_
    · refine And.intro (fun h4 => ?_) fun h4 => ?_
      · exact Exists.intro [] (ret_bool (by simp [letterB]; simp at h1 h3 h4; omega) rfl)
      · exact Exists.intro [] (ret_bool (by simp [letterB]; simp at h1 h3 h4; omega) rfl)
    · exact Exists.intro [] (ret_bool (by simp [letterB]; simp at h1 h3; omega) rfl)

theorem f107_spec (c : Int) (out : List Fr) : SpecP Try.prog 107 [.byte c] out fun r ro => r = .bool (digitB c) ∧ ro = [] := by
  refine spec_body cx_ok [] [] (fn := Try.f107) (by kernel_rfl) rfl (by kernel_rfl) rfl (by unfold FnOK; kernel_rfl) fun hok => ?_
  refine And.intro (fun h1 => ?_) fun h1 => ?_
  · refine And.intro (fun h2 => ?_) fun h2 => ?_
    · exact Exists.intro [] (ret_bool (by simp [digitB]; simp at h1 h2; omega) rfl)
    · exact Exists.intro [] (ret_bool (by simp [digitB]; simp at h1 h2; omega) rfl)
  · exact Exists.intro [] (ret_bool (by simp [digitB]; simp at h1; omega) rfl)

theorem rany_true {p : Nat → Bool} {i n : Nat} (hi : i < n) (h : p i = true) : (List.range n).any p = true := List.any_eq_true.2 ⟨i, List.mem_range.2 hi, h⟩
theorem rany_step {p : Nat → Bool} {i : Nat} (h : (List.range i).any p = false) (h2 : p i = false) : (List.range (i + 1)).any p = false := by
  rw [List.range_succ, List.any_append, h]; simp [h2]

def kp108 : Kp := [(2, ([0, 1, 7, 8], []))]
theorem f108_spec (s : ByteArray) (c : Int) (hs : s.size ≤ 1000) (out : List Fr) : SpecP Try.prog 108 [.str s, .byte c] out fun r ro => r = .bool (withinB s c) ∧ ro = [] := by
  refine spec_body cx_ok kp108 [] (fn := Try.f108) (by kernel_rfl) rfl (by kernel_rfl) rfl (by unfold FnOK; kernel_rfl) fun hok => ?_
  refine LoopW.mk Nat (fun i => i ≤ s.size ∧ (List.range i).any (fun i => byAt s i == c) = false) (fun i => [(0, .str s), (1, .byte c), (7, .int s.size), (8, .int i)]) (fun _ => ⟨out, []⟩) (fun i => s.size - i) 0 ⟨Nat.zero_le _, rfl⟩ ⟨rfl, rfl⟩ fun i hI => ?_
  refine And.intro (fun h1 => ?_) fun h1 => ?_
  · have hi : i < s.size := by simpa using h1
    refine And.intro (by omega) (Exists.intro _ (And.intro (byAt_get hi) ?_))
    refine And.intro (fun h2 => ?_) fun h2 => ?_
    · exact Exists.intro [] (ret_bool (rany_true hi h2) rfl)
    · refine And.intro (by omega) (And.intro (by omega) ?_)
      exact Exists.intro (i + 1) (And.intro (by show s.size - (i + 1) < s.size - i; omega) (And.intro ⟨hi, rany_step hI.2 h2⟩ (And.intro rfl rfl)))
  · have hi : i = s.size := by have := hI.1; simp at h1; omega
    exact Exists.intro [] (ret_bool (by have := hI.2; rw [hi] at this; exact this) rfl)

def kp95 : Kp := [(4, ([0, 19, 20], []))]
theorem f95_spec (s : ByteArray) (out : List Fr) : SpecP Try.prog 95 [.str s] out fun r ro => r = .bool (nameB s) ∧ ro = [] := by
  refine spec_body cx_ok kp95 [] (fn := Try.f95) (by kernel_rfl) rfl (by kernel_rfl) rfl (by unfold FnOK; kernel_rfl) fun hok => ?_
  refine And.intro (fun h1 => ?_) fun h1 => ?_
  · exact Exists.intro [] (ret_bool (by simp [nameB]; simp at h1; omega) rfl)
  refine And.intro (fun h2 => ?_) fun h2 => ?_
  · exact Exists.intro [] (ret_bool (by simp [nameB]; simp at h2; omega) rfl)
  have hs : 1 ≤ s.size ∧ s.size ≤ 40 := by simp at h1 h2; omega
  refine And.intro (by decide) (Exists.intro _ (And.intro (byAt_get (i := 0) hs.1) ?_))
  refine SpecP.mono (f106_spec (byAt s 0) []) ?_
  rintro r ro ⟨rfl, rfl⟩
  refine And.intro (fun h3 => ?_) fun h3 => ?_
  · refine LoopW.mk Nat (fun i => i ≤ s.size ∧ (List.range i).all (fun i => okB (byAt s i)) = true) (fun i => [(0, .str s), (19, .int s.size), (20, .int i)]) (fun _ => ⟨out, []⟩) (fun i => s.size - i) 0 ⟨Nat.zero_le _, rfl⟩ ⟨rfl, rfl⟩ fun i hI => ?_
    refine And.intro (fun h4 => ?_) fun h4 => ?_
    · have hi : i < s.size := by simpa using h4
      refine And.intro (by omega) (Exists.intro _ (And.intro (byAt_get hi) ?_))
      refine SpecP.mono (f106_spec (byAt s i) []) ?_
      rintro r ro ⟨rfl, rfl⟩
      refine And.intro (fun h5 => ?_) fun h5 => ?_
      · refine And.intro (by omega) (And.intro (by omega) ?_)
        exact Exists.intro (i + 1) (And.intro (by show s.size - (i + 1) < s.size - i; omega) (And.intro ⟨hi, range_step hI.2 (by simp [okB, h5])⟩ (And.intro rfl rfl)))
      · refine And.intro (by omega) (Exists.intro _ (And.intro (byAt_get hi) ?_))
        refine SpecP.mono (f107_spec (byAt s i) []) ?_
        rintro r ro ⟨rfl, rfl⟩
        refine And.intro (fun h6 => ?_) fun h6 => ?_
        · refine And.intro (by omega) (And.intro (by omega) ?_)
          exact Exists.intro (i + 1) (And.intro (by show s.size - (i + 1) < s.size - i; omega) (And.intro ⟨hi, range_step hI.2 (by simp [okB, h6])⟩ (And.intro rfl rfl)))
        · refine And.intro (by omega) (Exists.intro _ (And.intro (byAt_get hi) ?_))
          refine SpecP.mono (f108_spec punct (byAt s i) (by decide) []) ?_
          rintro r ro ⟨rfl, rfl⟩
          refine And.intro (fun h7 => ?_) fun h7 => ?_
          · refine And.intro (by omega) (And.intro (by omega) ?_)
            exact Exists.intro (i + 1) (And.intro (by show s.size - (i + 1) < s.size - i; omega) (And.intro ⟨hi, range_step hI.2 (by simp [okB, h7])⟩ (And.intro rfl rfl)))
          · exact Exists.intro [] (ret_bool (by rw [nameB, range_false hi (by simp [okB, h5, h6, h7])]; simp) rfl)
    · have hi : i = s.size := by have := hI.1; simp at h4; omega
      have h5 := hI.2
      rw [hi] at h5
      exact Exists.intro [] (ret_bool (by rw [nameB, h5, h3]; simp; omega) rfl)
  · exact Exists.intro [] (ret_bool (by simp [nameB, h3]) rfl)

/-! ### Sets of names -/
def kvS (l : List ByteArray) : List (Value × T) := l.map fun s => (.string s, .v (.bool true))
theorem look_kvS (s : ByteArray) : ∀ l : List ByteArray, lookKV (.string s) (.v (.bool false)) (kvS l) = .v (.bool (l.any (s == ·)))
  | [] => rfl
  | x :: r => by
    have ih := look_kvS s r
    simp only [kvS, List.map_cons, lookKV, List.any_cons] at ih ⊢
    by_cases h : (s == x) = true
    · rw [if_pos (show sameK (.string s) (.string x) = true from h), h]; rfl
    · rw [if_neg (show ¬ sameK (.string s) (.string x) = true from h), ih]; simp [h]
theorem upd_kvS (s : ByteArray) : ∀ l : List ByteArray, l.any (s == ·) = false → updKV (.string s) (.v (.bool true)) (kvS l) = kvS (l ++ [s])
  | [], _ => rfl
  | x :: r, h => by
    simp only [List.any_cons, Bool.or_eq_false_iff] at h
    have ih := upd_kvS s r h.2
    simp only [kvS, List.map_cons, updKV, List.cons_append] at ih ⊢
    rw [if_neg (show ¬ sameK (.string s) (.string x) = true by show ¬ (s == x) = true; rw [h.1]; simp), ih]

def atS (l : List ByteArray) (i : Nat) : ByteArray := l[i]?.getD ⟨#[]⟩
def chkS (l : List ByteArray) (i : Nat) : Bool := nameB (atS l i) && !((l.take i).any (atS l i == ·))
def namesB (l : List ByteArray) : Bool := (List.range l.length).all (chkS l)
def kp51 : Kp := [(3, ([3, 7, 8, 9], [48]))]
theorem f51_spec (n1 : Bool) (l : List ByteArray) (out : List Fr) : SpecP Try.prog 51 [.t (.sl n1 1 (l.map tS))] out fun r ro => r = .bool (namesB l) ∧ ro = [] := by
  refine spec_body cx_ok kp51 [] (fn := Try.f51) (by kernel_rfl) rfl (by kernel_rfl) rfl (by unfold FnOK; kernel_rfl) fun hok => ?_
  have hmx := le_max hok.1.1
  refine LoopW.mk Nat (fun i => i ≤ l.length ∧ (List.range i).all (chkS l) = true) (fun i => [(3, .mpr (.cur 48)), (7, .t (.sl n1 1 (l.map tS))), (8, .int (l.map tS).length), (9, .int i)]) (fun i => ⟨out, [(48, .mp .str (kvS (l.take i)))]⟩) (fun i => l.length - i) 0 ⟨Nat.zero_le _, rfl⟩ ⟨rfl, rfl⟩ fun i hI => ?_
  refine And.intro (fun h1 => ?_) fun h1 => ?_
  · have hi := lt_of_dec h1
    have ha : atS l i = l[i] := by simp [atS, hi]
    refine And.intro (by omega) (Exists.intro _ (And.intro (get_map hi) ?_))
    refine SpecP.mono (f95_spec l[i] []) ?_
    rintro r ro ⟨rfl, rfl⟩
    refine And.intro (fun h2 => ?_) fun h2 => ?_
    · refine Exists.intro _ (And.intro (look_kvS _ _) ?_)
      refine And.intro (fun h3 => ?_) fun h3 => ?_
      · exact Exists.intro [] (ret_bool (range_false hi (by simp only [chkS, ha, h3]; simp)) rfl)
      · refine And.intro (by omega) (And.intro (by omega) ?_)
        refine Exists.intro (i + 1) (And.intro (by show l.length - (i + 1) < l.length - i; omega) (And.intro ⟨hi, range_step hI.2 (by simp only [chkS, ha, h2, h3]; simp)⟩ (And.intro rfl ?_)))
        have e : updKV (.string l[i]) (.v (.bool true)) (kvS (l.take i)) = kvS (l.take (i + 1)) := by
          rw [upd_kvS _ _ h3, List.take_add_one]; simp [hi]
        show (⟨out, [(48, .mp .str (updKV (.string l[i]) (.v (.bool true)) (kvS (l.take i))))]⟩ : St) = _
        rw [e]
    · exact Exists.intro [] (ret_bool (range_false hi (by simp only [chkS, ha, h2]; simp)) rfl)
  · have hi : i = l.length := by have := hI.1; have := ge_of_dec h1; omega
    exact Exists.intro [] (ret_bool (by have := hI.2; rw [hi] at this; exact this) rfl)

end Go.Fw

/- What the program's functions do, part 4: conditions; valid tasks. -/
namespace Go.Fw
open Go Go.Proofs
set_option maxRecDepth 10000

def condB (l : List Lit) (n : Int) : Bool := risingB (l.map (·.fact)) n
def effB (n : Int) (e : Eff) : Bool := condB e.when_ n && decide (0 ≤ e.lit.fact) && decide (e.lit.fact < n)
def actB (n : Int) (a : Actn) : Bool := decide (0 ≤ a.cost) && decide (a.cost ≤ 100000) && condB a.pre n && decide (a.effs.length ≤ 100) && a.effs.all (effB n)
def isB (t : Task) : Bool := decide (t.facts.length ≤ 200) && namesB t.facts && risingB t.init t.facts.length && condB t.goal t.facts.length && decide (t.acts.length ≤ 1000) &&
  t.acts.all (actB t.facts.length) && namesB (t.acts.map (·.name))

theorem atF_eq {l : List Lit} {i : Nat} (h : i < l.length) : at0 (l.map (·.fact)) i = l[i].fact := by simp [at0, h]

def od53 : Od := [(4, [(0, .pure), (1, .pure), (2, .pure), (3, .pure), (4, .pure), (5, .pure), (6, .pure), (7, .pure), (8, .pure), (9, .pure), (10, .pure), (11, .pure), (12, .pure), (13, .pure), (14, .pure), (15, .pure), (16, .pure), (17, .pure), (18, .pure), (19, .pure), (20, .pure), (21, .pure), (22, .pure), (23, .pure)])]
def kp53 : Kp := [(2, ([0, 1, 7, 8, 9], []))]
theorem f53_spec (n1 : Bool) (l : List Lit) (n : Int) (out : List Fr) : SpecP Try.prog 53 [.lits n1 l, .int n] out fun r ro => r = .bool (condB l n) ∧ ro = [] := by
  refine spec_body cx_ok kp53 od53 (fn := Try.f53) (by kernel_rfl) rfl (by kernel_rfl) rfl (by unfold FnOK; kernel_rfl) fun hok => ?_
  have hmx := le_max hok.1.1
  have hlen : (l.map (·.fact)).length = l.length := List.length_map ..
  refine LoopW.mk Nat (fun i => i ≤ l.length ∧ (List.range i).all (chkI (l.map (·.fact)) n) = true) (fun i => [(0, .lits n1 l), (1, .int n), (7, .lits n1 l), (8, .int (l.map tLit).length), (9, .int i)]) (fun _ => ⟨out, []⟩) (fun i => l.length - i) 0 ⟨Nat.zero_le _, rfl⟩ ⟨rfl, rfl⟩ fun i hI => ?_
  refine And.intro (fun h1 => ?_) fun h1 => ?_
  · have hi := lt_of_dec h1
    have hi' : i < (l.map (·.fact)).length := by rw [hlen]; exact hi
    have ha := atF_eq hi
    refine And.intro (by omega) (Exists.intro _ (And.intro (get_map hi) ?_))
    refine And.intro (fun h2 => ?_) fun h2 => ?_
    · exact Exists.intro [] (ret_bool (range_false hi' (by simp [chkI, ha]; simp at h2; omega)) rfl)
    · refine And.intro (fun h3 => ?_) fun h3 => ?_
      · exact Exists.intro [] (ret_bool (range_false hi' (by simp [chkI, ha]; simp at h2 h3; omega)) rfl)
      · refine And.intro (fun h4 => ?_) fun h4 => ?_
        · have h0 : 0 < i := by simp at h4; omega
          have hp := atF_eq (l := l) (i := i - 1) (by omega)
          refine And.intro (by omega) (And.intro (by omega) (And.intro (by omega) (Exists.intro _ (And.intro (get_pred hi h0) ?_))))
          refine And.intro (fun h5 => ?_) fun h5 => ?_
          · exact Exists.intro [] (ret_bool (range_false hi' (by simp [chkI, ha, hp]; simp at h2 h3 h5; omega)) rfl)
          · refine And.intro (by omega) (And.intro (by omega) ?_)
            exact Exists.intro (i + 1) (And.intro (by show l.length - (i + 1) < l.length - i; omega) (And.intro ⟨hi, range_step hI.2 (by simp [chkI, ha, hp]; simp at h2 h3 h5; omega)⟩ (And.intro rfl rfl)))
        · have h0 : i = 0 := by simp at h4; omega
          refine And.intro (by omega) (And.intro (by omega) ?_)
          exact Exists.intro (i + 1) (And.intro (by show l.length - (i + 1) < l.length - i; omega) (And.intro ⟨hi, range_step hI.2 (by simp [chkI, ha]; simp at h2 h3; omega)⟩ (And.intro rfl rfl)))
  · have hi : i = l.length := by have := hI.1; have := ge_of_dec h1; omega
    exact Exists.intro [] (ret_bool (by have := hI.2; rw [hi, ← hlen] at this; exact this) rfl)

end Go.Fw

/- What the program's functions do, part 5: valid tasks. -/
namespace Go.Fw
open Go Go.Proofs
set_option maxRecDepth 10000

/-! ### Lists that are gathered -/
def accV (s sz : Nat) (es : List (List T)) : LV := match es with
  | [] => .t (.sl true 0 [])
  | x :: r => .osl (.cur s) sz 0 (x :: r).length
def accO (s e sz : Nat) (es : List (List T)) : Fr := match es with
  | [] => []
  | x :: r => [(s, .row e sz (x :: r))]

def kp18 : Kp := [(6, ([3, 4, 41, 42, 43], [784])), (11, ([3, 4, 6, 41, 42, 43, 69, 70, 71], [48, 784]))]
theorem f18_spec (t : Task) (out : List Fr) : SpecP Try.prog 18 [.task t] out fun r ro => r = .bool (isB t) ∧ ro = [] := by
  refine spec_body cx_ok kp18 [] (fn := Try.f18) (by kernel_rfl) rfl (by kernel_rfl) rfl (by unfold FnOK; kernel_rfl) fun hok => ?_
  have hfm := le_max hok.1.1.1
  have ham := le_max hok.1.2.2.2.1.1
  refine And.intro (fun h1 => ?_) fun h1 => ?_
  · exact Exists.intro [] (ret_bool (by simp at h1; simp [isB]; omega) rfl)
  refine SpecP.mono (f51_spec t.fn t.facts []) ?_
  rintro r ro ⟨rfl, rfl⟩
  refine And.intro (fun h2 => ?_) fun h2 => ?_
  rotate_left
  · exact Exists.intro [] (ret_bool (by simp [isB, h2]) rfl)
  refine SpecP.mono (f52_spec t.ni t.init (t.facts.map tS).length []) ?_
  rintro r ro ⟨rfl, rfl⟩
  rw [List.length_map]
  refine And.intro (fun h3 => ?_) fun h3 => ?_
  rotate_left
  · exact Exists.intro [] (ret_bool (by simp [isB, h3]) rfl)
  refine SpecP.mono (f53_spec t.gn t.goal t.facts.length []) ?_
  rintro r ro ⟨rfl, rfl⟩
  refine And.intro (fun h4 => ?_) fun h4 => ?_
  rotate_left
  · exact Exists.intro [] (ret_bool (by simp [isB, h4]) rfl)
  refine And.intro (fun h5 => ?_) fun h5 => ?_
  · exact Exists.intro [] (ret_bool (by simp at h5; simp [isB]; omega) rfl)
  have hl1 : t.facts.length ≤ 200 := by simp at h1; omega
  have hl2 : t.acts.length ≤ 1000 := by simp at h5; omega
  refine LoopW.mk (Nat × List ByteArray) (fun p => p.1 ≤ t.acts.length ∧ p.2 = (t.acts.take p.1).map (·.name) ∧ (t.acts.take p.1).all (actB t.facts.length) = true)
    (fun p => [(3, .int t.facts.length), (4, accV 784 1 (p.2.map tS)), (41, .t (.sl t.an 4 (t.acts.map tAct))), (42, .int (t.acts.map tAct).length), (43, .int p.1)])
    (fun p => ⟨out, accO 784 9 1 (p.2.map tS)⟩) (fun p => t.acts.length - p.1) (0, []) ⟨Nat.zero_le _, rfl, rfl⟩ ⟨rfl, rfl⟩ ?_
  rintro ⟨i, nm⟩ ⟨hi0, hnm, hall⟩
  simp only at hi0 hnm hall
  cases nm with
  | nil =>
    refine And.intro (fun h6 => ?_) fun h6 => ?_
    · have hi : i < t.acts.length := lt_of_dec h6
      have hact : ∀ (h : actB t.facts.length t.acts[i] = false), isB t = false := fun h => by simp [isB, all_false hi h]
      refine And.intro (by omega) (Exists.intro _ (And.intro (get_map hi) ?_))
      refine And.intro (fun h7 => ?_) fun h7 => ?_
      · exact Exists.intro [] (ret_bool (hact (by simp at h7; simp [actB]; omega)) rfl)
      refine And.intro (fun h8 => ?_) fun h8 => ?_
      · exact Exists.intro [] (ret_bool (hact (by simp at h8; simp [actB]; omega)) rfl)
      refine SpecP.mono (f53_spec t.acts[i].pn t.acts[i].pre t.facts.length []) ?_
      rintro _ _ ⟨rfl, rfl⟩
      refine And.intro (fun h9 => ?_) fun h9 => ?_
      rotate_left
      · exact Exists.intro [] (ret_bool (hact (by simp [actB, h9])) rfl)
      refine And.intro (fun h10 => ?_) fun h10 => ?_
      · exact Exists.intro [] (ret_bool (hact (by simp at h10; simp [actB]; omega)) rfl)
      have hel : t.acts[i].effs.length ≤ 100 := by simp at h10; omega
      refine LoopW.mk Nat (fun j => j ≤ t.acts[i].effs.length ∧ (t.acts[i].effs.take j).all (effB t.facts.length) = true)
        (fun j => [(3, .int t.facts.length), (4, .t (.sl true 0 [])), (6, .ptr (.cur 48) 0), (41, .t (.sl t.an 4 (t.acts.map tAct))), (42, .int (t.acts.map tAct).length), (43, .int i), (69, .t (.sl t.acts[i].en 3 (t.acts[i].effs.map tEff))), (70, .int (t.acts[i].effs.map tEff).length), (71, .int j)])
        (fun j => ⟨out, (48, .box [.t (.v (.string t.acts[i].name)), .t (.v (.int .i64 t.acts[i].cost)), .t (.sl t.acts[i].pn 2 (t.acts[i].pre.map tLit)), .t (.sl t.acts[i].en 3 (t.acts[i].effs.map tEff))]) :: []⟩) (fun j => t.acts[i].effs.length - j) 0 ⟨Nat.zero_le _, rfl⟩ ⟨rfl, rfl⟩ fun j hJ => ?_
      refine And.intro (fun k1 => ?_) fun k1 => ?_
      · have hj : j < t.acts[i].effs.length := lt_of_dec k1
        have heff : ∀ (h : effB t.facts.length t.acts[i].effs[j] = false), isB t = false := fun h => hact (by simp [actB, all_false hj h])
        refine And.intro (by omega) (Exists.intro _ (And.intro (get_map hj) ?_))
        refine SpecP.mono (f53_spec t.acts[i].effs[j].nil t.acts[i].effs[j].when_ t.facts.length []) ?_
        rintro _ _ ⟨rfl, rfl⟩
        refine And.intro (fun k2 => ?_) fun k2 => ?_
        rotate_left
        · exact Exists.intro [] (ret_bool (heff (by simp [effB, k2])) rfl)
        refine And.intro (fun k3 => ?_) fun k3 => ?_
        · exact Exists.intro [] (ret_bool (heff (by simp at k3; simp [effB]; omega)) rfl)
        refine And.intro (fun k4 => ?_) fun k4 => ?_
        · exact Exists.intro [] (ret_bool (heff (by simp at k4; simp [effB]; omega)) rfl)
        refine And.intro (by omega) (And.intro (by omega) ?_)
        exact Exists.intro (j + 1) (And.intro (by show t.acts[i].effs.length - (j + 1) < t.acts[i].effs.length - j; omega) (And.intro ⟨hj, all_step hj hJ.2 (by simp at k3 k4; simp [effB, k2]; omega)⟩ (And.intro rfl rfl)))
      · have he : t.acts[i].effs.all (effB t.facts.length) = true := all_end (ge_of_dec k1) hJ.2
        have ha : actB t.facts.length t.acts[i] = true := by simp at h7 h8 h10; simp [actB, h9, he]; omega
        refine And.intro (Nat.le_of_ble_eq_true rfl) (And.intro (Nat.le_of_ble_eq_true rfl) (And.intro (Nat.le_of_ble_eq_true rfl) ?_))
        refine And.intro (by omega) (And.intro (by omega) ?_)
        exact Exists.intro (i + 1, [t.acts[i].name]) (And.intro (by show t.acts.length - (i + 1) < t.acts.length - i; omega) (And.intro ⟨hi, by show [t.acts[i].name] = _; rw [List.take_add_one, List.map_append, ← hnm]; simp [hi], all_step hi hall ha⟩ (And.intro rfl rfl)))
    · have hi : i = t.acts.length := by have := ge_of_dec h6; omega
      have hbase : isB t = namesB (t.acts.map (·.name)) := by
        rw [hi, List.take_length] at hall
        simp [isB, h2, h3, h4, hl1, hl2, hall]
      have hnm2 : [] = t.acts.map (·.name) := by rw [hnm, hi, List.take_length]
      refine SpecP.conv1 nil_sz (SpecP.mono (f51_spec true [] []) ?_)
      rintro _ _ ⟨rfl, rfl⟩
      refine And.intro (fun h => ?_) fun h => ?_
      · exact Exists.intro [] (ret_bool (by rw [hbase, ← hnm2]; exact h) rfl)
      · exact Exists.intro [] (ret_bool (by rw [hbase, ← hnm2]; exact h) rfl)
  | cons x r =>
    refine And.intro (fun h6 => ?_) fun h6 => ?_
    · have hi : i < t.acts.length := lt_of_dec h6
      have hact : ∀ (h : actB t.facts.length t.acts[i] = false), isB t = false := fun h => by simp [isB, all_false hi h]
      refine And.intro (by omega) (Exists.intro _ (And.intro (get_map hi) ?_))
      refine And.intro (fun h7 => ?_) fun h7 => ?_
      · exact Exists.intro [] (ret_bool (hact (by simp at h7; simp [actB]; omega)) rfl)
      refine And.intro (fun h8 => ?_) fun h8 => ?_
      · exact Exists.intro [] (ret_bool (hact (by simp at h8; simp [actB]; omega)) rfl)
      refine SpecP.mono (f53_spec t.acts[i].pn t.acts[i].pre t.facts.length []) ?_
      rintro _ _ ⟨rfl, rfl⟩
      refine And.intro (fun h9 => ?_) fun h9 => ?_
      rotate_left
      · exact Exists.intro [] (ret_bool (hact (by simp [actB, h9])) rfl)
      refine And.intro (fun h10 => ?_) fun h10 => ?_
      · exact Exists.intro [] (ret_bool (hact (by simp at h10; simp [actB]; omega)) rfl)
      have hel : t.acts[i].effs.length ≤ 100 := by simp at h10; omega
      refine LoopW.mk Nat (fun j => j ≤ t.acts[i].effs.length ∧ (t.acts[i].effs.take j).all (effB t.facts.length) = true)
        (fun j => [(3, .int t.facts.length), (4, .osl (.cur 784) 1 0 ((x :: r).map tS).length), (6, .ptr (.cur 48) 0), (41, .t (.sl t.an 4 (t.acts.map tAct))), (42, .int (t.acts.map tAct).length), (43, .int i), (69, .t (.sl t.acts[i].en 3 (t.acts[i].effs.map tEff))), (70, .int (t.acts[i].effs.map tEff).length), (71, .int j)])
        (fun j => ⟨out, (48, .box [.t (.v (.string t.acts[i].name)), .t (.v (.int .i64 t.acts[i].cost)), .t (.sl t.acts[i].pn 2 (t.acts[i].pre.map tLit)), .t (.sl t.acts[i].en 3 (t.acts[i].effs.map tEff))]) :: [(784, .row 9 1 ((x :: r).map tS))]⟩) (fun j => t.acts[i].effs.length - j) 0 ⟨Nat.zero_le _, rfl⟩ ⟨rfl, rfl⟩ fun j hJ => ?_
      refine And.intro (fun k1 => ?_) fun k1 => ?_
      · have hj : j < t.acts[i].effs.length := lt_of_dec k1
        have heff : ∀ (h : effB t.facts.length t.acts[i].effs[j] = false), isB t = false := fun h => hact (by simp [actB, all_false hj h])
        refine And.intro (by omega) (Exists.intro _ (And.intro (get_map hj) ?_))
        refine SpecP.mono (f53_spec t.acts[i].effs[j].nil t.acts[i].effs[j].when_ t.facts.length []) ?_
        rintro _ _ ⟨rfl, rfl⟩
        refine And.intro (fun k2 => ?_) fun k2 => ?_
        rotate_left
        · exact Exists.intro [] (ret_bool (heff (by simp [effB, k2])) rfl)
        refine And.intro (fun k3 => ?_) fun k3 => ?_
        · exact Exists.intro [] (ret_bool (heff (by simp at k3; simp [effB]; omega)) rfl)
        refine And.intro (fun k4 => ?_) fun k4 => ?_
        · exact Exists.intro [] (ret_bool (heff (by simp at k4; simp [effB]; omega)) rfl)
        refine And.intro (by omega) (And.intro (by omega) ?_)
        exact Exists.intro (j + 1) (And.intro (by show t.acts[i].effs.length - (j + 1) < t.acts[i].effs.length - j; omega) (And.intro ⟨hj, all_step hj hJ.2 (by simp at k3 k4; simp [effB, k2]; omega)⟩ (And.intro rfl rfl)))
      · have he : t.acts[i].effs.all (effB t.facts.length) = true := all_end (ge_of_dec k1) hJ.2
        have ha : actB t.facts.length t.acts[i] = true := by simp at h7 h8 h10; simp [actB, h9, he]; omega
        have hln : (x :: r).length = i := by rw [hnm]; simp; omega
        have hln2 : ((tS x :: r.map tS) ++ [tS t.acts[i].name]).length = i + 1 := by simp at hln ⊢; omega
        refine And.intro (Nat.le_of_ble_eq_true rfl) (And.intro rfl (And.intro (by show ((tS x :: r.map tS) ++ [tS t.acts[i].name]).length * 16 ≤ _; rw [hln2]; omega) (And.intro (by show ((tS x :: r.map tS) ++ [tS t.acts[i].name]).length ≤ _; rw [hln2]; omega) ?_)))
        refine And.intro (by omega) (And.intro (by omega) ?_)
        have e : (r ++ [t.acts[i].name]).map tS = r.map tS ++ [tS t.acts[i].name] := by simp
        refine Exists.intro (i + 1, x :: (r ++ [t.acts[i].name])) (And.intro (by show t.acts.length - (i + 1) < t.acts.length - i; omega) (And.intro ⟨hi, by show x :: (r ++ [t.acts[i].name]) = _; rw [List.take_add_one, List.map_append, ← hnm]; simp [hi], all_step hi hall ha⟩ ?_))
        simp only [List.map_cons, e]
        exact And.intro rfl rfl
    · have hi : i = t.acts.length := by have := ge_of_dec h6; omega
      have hbase : isB t = namesB (t.acts.map (·.name)) := by
        rw [hi, List.take_length] at hall
        simp [isB, h2, h3, h4, hl1, hl2, hall]
      have hnm2 : x :: r = t.acts.map (·.name) := by rw [hnm, hi, List.take_length]
      refine Exists.intro ((x :: r).map tS) (And.intro (by show _ = List.take _ (List.drop 0 _); rw [List.drop_zero, List.take_of_length_le (Nat.le_refl _)]; rfl) (And.intro (by simp) ?_))
      refine SpecP.mono (f51_spec false (x :: r) _) ?_
      rintro _ _ ⟨rfl, rfl⟩
      refine And.intro trivial (And.intro trivial ?_)
      refine And.intro (fun h => ?_) fun h => ?_
      · exact Exists.intro [] (ret_bool (by rw [hbase, ← hnm2]; exact h) rfl)
      · exact Exists.intro [] (ret_bool (by rw [hbase, ← hnm2]; exact h) rfl)

end Go.Fw

/- What the program's functions do, part 6: states and their bits. -/
namespace Go.Fw
open Go Go.Proofs
set_option maxRecDepth 10000

theorem f42_spec (t : Task) (n1 : Bool) (s : List Int) (out : List Fr) : SpecP Try.prog 42 [.task t, .ints n1 s] out fun r ro => r = .bool (risingB s t.facts.length) ∧ ro = [] := by
  refine spec_body cx_ok [] [] (fn := Try.f42) (by kernel_rfl) rfl (by kernel_rfl) rfl (by unfold FnOK; kernel_rfl) fun hok => ?_
  refine SpecP.mono (f52_spec n1 s (t.facts.map tS).length []) ?_
  rintro _ _ ⟨rfl, rfl⟩
  rw [List.length_map]
  refine And.intro (fun h => ?_) fun h => ?_
  · exact Exists.intro [] (ret_bool h rfl)
  · exact Exists.intro [] (ret_bool h rfl)

def bitsL (n : Nat) (l : List Int) : List Bool := l.foldl (fun b x => b.set x.toNat true) (List.replicate n false)
theorem bitsL_length (n : Nat) (l : List Int) : (bitsL n l).length = n := by
  have : ∀ (l : List Int) (b : List Bool), (l.foldl (fun b x => b.set x.toNat true) b).length = b.length := by
    intro l
    induction l with
    | nil => intro b; rfl
    | cons x r ih => intro b; rw [List.foldl_cons, ih]; simp
  rw [bitsL, this]; simp
theorem bitsL_step {n : Nat} {l : List Int} {i : Nat} (h : i < l.length) : bitsL n (l.take (i + 1)) = (bitsL n (l.take i)).set l[i].toNat true := by
  rw [bitsL, List.take_add_one, List.foldl_append]; simp [h, bitsL]
theorem map_set' {b : List Bool} {i : Nat} {x : Bool} : (b.map tB).set i (tB x) = (b.set i x).map tB := by rw [List.map_set]

def kp109 : Kp := [(3, ([5, 10, 11, 12], [72]))]
theorem f109_spec (n : Nat) (n1 : Bool) (l : List Int) (hn : n ≤ 140737488355328) (hl : ∀ x ∈ l, 0 ≤ x ∧ x < n) (out : List Fr) :
    SpecP Try.prog 109 [.int n, .ints n1 l] out fun r ro => r = .osl (.cur 72) 1 0 n ∧ ro = [(72, .row 4 1 ((bitsL n l).map tB))] := by
  refine spec_body cx_ok kp109 [] (fn := Try.f109) (by kernel_rfl) rfl (by kernel_rfl) rfl (by unfold FnOK; kernel_rfl) fun hok => ?_
  have hmx := le_max hok.2.1.1
  refine And.intro rfl (And.intro (by omega) (And.intro (by show (n : Int) * (1 : Nat) ≤ _; omega) (And.intro (by omega) ?_)))
  refine LoopW.mk Nat (fun i => i ≤ l.length) (fun i => [(5, .osl (.cur 72) 1 0 n), (10, .ints n1 l), (11, .int (l.map tI).length), (12, .int i)]) (fun i => ⟨out, [(72, .row 4 1 ((bitsL n (l.take i)).map tB))]⟩) (fun i => l.length - i) 0 (Nat.zero_le _) ⟨rfl, ?_⟩ fun i hI => ?_
  · show (⟨out, [(72, .row 4 1 (List.replicate n (tB false)))]⟩ : St) = _
    simp [bitsL]
  refine And.intro (fun h1 => ?_) fun h1 => ?_
  · have hi := lt_of_dec h1
    have hx := hl l[i] (List.getElem_mem hi)
    have hb : l[i].toNat < (bitsL n (l.take i)).length := by rw [bitsL_length]; omega
    refine And.intro (by omega) (Exists.intro _ (And.intro (get_map hi) ?_))
    refine And.intro hx.1 (And.intro hx.2 ?_)
    refine Exists.intro (tB (bitsL n (l.take i))[l[i].toNat]) (And.intro (by rw [Nat.zero_add, List.getElem?_map, List.getElem?_eq_getElem hb]; rfl) (And.intro (Nat.le_refl 1) ?_))
    refine And.intro (by omega) (And.intro (by omega) ?_)
    refine Exists.intro (i + 1) (And.intro (by show l.length - (i + 1) < l.length - i; omega) (And.intro hi (And.intro rfl ?_)))
    show (⟨out, [(72, .row 4 1 (((bitsL n (l.take i)).map tB).set (0 + l[i].toNat) (tB true)))]⟩ : St) = _
    rw [Nat.zero_add, map_set', ← bitsL_step hi]
  · have hi : i = l.length := by have := ge_of_dec h1; omega
    refine Exists.intro [72] (And.intro rfl ?_)
    show [(72, Ob.row 4 1 ((bitsL n (l.take i)).map tB))] = _
    rw [hi, List.take_length]

end Go.Fw

/- What the program's functions do, part 7: the list of bits. -/
namespace Go.Fw
open Go Go.Proofs
set_option maxRecDepth 10000

def listFrom : Nat → List Bool → List Int
  | _, [] => []
  | k, b :: r => (if b then [(k : Int)] else []) ++ listFrom (k + 1) r
def listL (b : List Bool) : List Int := listFrom 0 b
theorem listFrom_snoc (b : Bool) : ∀ (l : List Bool) (k : Nat), listFrom k (l ++ [b]) = listFrom k l ++ if b then [((k + l.length : Nat) : Int)] else []
  | [], k => by simp [listFrom]
  | c :: r, k => by
    rw [List.cons_append, listFrom, listFrom_snoc b r (k + 1), listFrom, List.append_assoc]
    simp only [List.length_cons]
    rw [show k + 1 + r.length = k + (r.length + 1) by omega]
theorem listL_step {l : List Bool} {i : Nat} (h : i < l.length) : listL (l.take (i + 1)) = listL (l.take i) ++ if l[i] then [(i : Int)] else [] := by
  rw [List.take_add_one]
  simp only [h, List.getElem?_eq_getElem, Option.toList_some]
  rw [listL, listFrom_snoc, listL]
  have : (l.take i).length = i := by simp; omega
  rw [this, Nat.zero_add]
theorem listL_len (l : List Bool) (i : Nat) : (listL (l.take i)).length ≤ i := by
  have : ∀ (l : List Bool) (k : Nat), (listFrom k l).length ≤ l.length := by
    intro l
    induction l with
    | nil => intro k; simp [listFrom]
    | cons b r ih => intro k; have := ih (k + 1); cases b <;> simp [listFrom] <;> omega
  exact Nat.le_trans (this _ 0) (by simp; omega)

def kp110 : Kp := [(3, ([3, 6, 7, 8], [136]))]
theorem f110_spec (n1 : Bool) (b : List Bool) (hb : b.length ≤ 1000000000) (out : List Fr) :
    SpecP Try.prog 110 [.bools n1 b] out fun r ro => r = accV 136 1 ((listL b).map tI) ∧ ro = accO 136 3 1 ((listL b).map tI) := by
  refine spec_body cx_ok kp110 [] (fn := Try.f110) (by kernel_rfl) rfl (by kernel_rfl) rfl (by unfold FnOK; kernel_rfl) fun hok => ?_
  refine LoopW.mk (Nat × List Int) (fun p => p.1 ≤ b.length ∧ p.2 = listL (b.take p.1)) (fun p => [(3, accV 136 1 (p.2.map tI)), (6, .bools n1 b), (7, .int (b.map tB).length), (8, .int p.1)]) (fun p => ⟨out, accO 136 3 1 (p.2.map tI)⟩) (fun p => b.length - p.1) (0, []) ⟨Nat.zero_le _, rfl⟩ ⟨rfl, rfl⟩ ?_
  rintro ⟨i, acc⟩ ⟨hi0, hacc⟩
  simp only at hi0 hacc
  cases acc with
  | nil =>
    refine And.intro (fun h1 => ?_) fun h1 => ?_
    · have hi : i < b.length := lt_of_dec h1
      have hs := listL_step hi
      refine And.intro (by omega) (Exists.intro _ (And.intro (get_map hi) ?_))
      refine And.intro (fun h2 => ?_) fun h2 => ?_
      · refine And.intro (Nat.le_of_ble_eq_true rfl) (And.intro (Nat.le_of_ble_eq_true rfl) (And.intro (Nat.le_of_ble_eq_true rfl) ?_))
        refine And.intro (by omega) (And.intro (by omega) ?_)
        exact Exists.intro (i + 1, [(i : Int)]) (And.intro (by show b.length - (i + 1) < b.length - i; omega) (And.intro ⟨hi, by show [(i : Int)] = _; rw [hs, ← hacc, h2]; rfl⟩ (And.intro rfl rfl)))
      · refine And.intro (by omega) (And.intro (by omega) ?_)
        exact Exists.intro (i + 1, []) (And.intro (by show b.length - (i + 1) < b.length - i; omega) (And.intro ⟨hi, by show [] = _; rw [hs, ← hacc, h2]; rfl⟩ (And.intro rfl rfl)))
    · have hi : i = b.length := by have := ge_of_dec h1; omega
      rw [hi, List.take_length] at hacc
      refine Exists.intro [136] (And.intro ?_ ?_)
      · show LV.t (.sl true 0 []) = _
        rw [← hacc]; rfl
      · rw [← hacc]; rfl
  | cons x r =>
    refine And.intro (fun h1 => ?_) fun h1 => ?_
    · have hi : i < b.length := lt_of_dec h1
      have hs := listL_step hi
      have hln : (x :: r).length ≤ i := by rw [hacc]; exact listL_len b i
      have hln2 : ((tI x :: r.map tI) ++ [tI i]).length ≤ i + 1 := by simp at hln ⊢; omega
      refine And.intro (by omega) (Exists.intro _ (And.intro (get_map hi) ?_))
      refine And.intro (fun h2 => ?_) fun h2 => ?_
      · refine And.intro (Nat.le_of_ble_eq_true rfl) (And.intro rfl (And.intro (by show ((tI x :: r.map tI) ++ [tI i]).length * 8 ≤ _; omega) (And.intro (by show ((tI x :: r.map tI) ++ [tI i]).length ≤ _; omega) ?_)))
        refine And.intro (by omega) (And.intro (by omega) ?_)
        have e : (r ++ [(i : Int)]).map tI = r.map tI ++ [tI i] := by simp
        refine Exists.intro (i + 1, x :: (r ++ [(i : Int)])) (And.intro (by show b.length - (i + 1) < b.length - i; omega) (And.intro ⟨hi, by show x :: (r ++ [(i : Int)]) = _; rw [hs, ← hacc, h2]; rfl⟩ ?_))
        simp only [List.map_cons, e]
        exact And.intro rfl rfl
      · refine And.intro (by omega) (And.intro (by omega) ?_)
        exact Exists.intro (i + 1, x :: r) (And.intro (by show b.length - (i + 1) < b.length - i; omega) (And.intro ⟨hi, by show x :: r = _; rw [hs, ← hacc, h2]; simp⟩ (And.intro rfl rfl)))
    · have hi : i = b.length := by have := ge_of_dec h1; omega
      rw [hi, List.take_length] at hacc
      refine Exists.intro [136] (And.intro ?_ ?_)
      · show LV.osl (.cur 136) 1 0 ((x :: r).map tI).length = _
        rw [← hacc]; rfl
      · rw [← hacc]; rfl

end Go.Fw

/- What the program's functions do, part 10: rising lists and conditions of package task. -/
namespace Go.Fw
open Go Go.Proofs
set_option maxRecDepth 10000

def kp66 : Kp := [(2, ([0, 1, 7, 8, 9], []))]
theorem f66_spec (n1 : Bool) (l : List Int) (n : Int) (out : List Fr) : SpecP Try.prog 66 [.int n, .ints n1 l] out fun r ro => r = .bool (risingB l n) ∧ ro = [] := by
  refine spec_body cx_ok kp66 [] (fn := Try.f66) (by kernel_rfl) rfl (by kernel_rfl) rfl (by unfold FnOK; kernel_rfl) fun hok => ?_
  have hmx := le_max hok.2.1.1
  refine LoopW.mk Nat (fun i => i ≤ l.length ∧ (List.range i).all (chkI l n) = true) (fun i => [(0, .int n), (1, .ints n1 l), (7, .ints n1 l), (8, .int (l.map tI).length), (9, .int i)]) (fun _ => ⟨out, []⟩) (fun i => l.length - i) 0 ⟨Nat.zero_le _, rfl⟩ ⟨rfl, rfl⟩ fun i hI => ?_
  refine And.intro (fun h1 => ?_) fun h1 => ?_
  · have hi := lt_of_dec h1
    have ha := at0_eq hi
    refine And.intro (by omega) (Exists.intro _ (And.intro (get_map hi) ?_))
    refine And.intro (fun h2 => ?_) fun h2 => ?_
    · exact Exists.intro [] (ret_bool (range_false hi (by simp [chkI, ha]; simp at h2; omega)) rfl)
    · refine And.intro (fun h3 => ?_) fun h3 => ?_
      · exact Exists.intro [] (ret_bool (range_false hi (by simp [chkI, ha]; simp at h2 h3; omega)) rfl)
      · refine And.intro (fun h4 => ?_) fun h4 => ?_
        · have h0 : 0 < i := by simp at h4; omega
          have hp := at0_eq (l := l) (i := i - 1) (by omega)
          refine And.intro (by omega) (And.intro (by omega) (And.intro (by omega) (Exists.intro _ (And.intro (get_pred hi h0) ?_))))
          refine And.intro (fun h5 => ?_) fun h5 => ?_
          · exact Exists.intro [] (ret_bool (range_false hi (by simp [chkI, ha, hp]; simp at h2 h3 h5; omega)) rfl)
          · refine And.intro (by omega) (And.intro (by omega) ?_)
            exact Exists.intro (i + 1) (And.intro (by show l.length - (i + 1) < l.length - i; omega) (And.intro ⟨hi, range_step hI.2 (by simp [chkI, ha, hp]; simp at h2 h3 h5; omega)⟩ (And.intro rfl rfl)))
        · have h0 : i = 0 := by simp at h4; omega
          refine And.intro (by omega) (And.intro (by omega) ?_)
          exact Exists.intro (i + 1) (And.intro (by show l.length - (i + 1) < l.length - i; omega) (And.intro ⟨hi, range_step hI.2 (by simp [chkI, ha]; simp at h2 h3; omega)⟩ (And.intro rfl rfl)))
  · have hi : i = l.length := by have := hI.1; have := ge_of_dec h1; omega
    exact Exists.intro [] (ret_bool (by have := hI.2; rw [hi] at this; exact this) rfl)

def od92 : Od := [(4, [(0, .pure), (1, .pure), (2, .pure), (3, .pure), (4, .pure), (5, .pure), (6, .pure), (7, .pure), (8, .pure), (9, .pure), (10, .pure), (11, .pure), (12, .pure), (13, .pure), (14, .pure), (15, .pure), (16, .pure), (17, .pure), (18, .pure), (19, .pure), (20, .pure), (21, .pure), (22, .pure), (23, .pure)])]
def kp92 : Kp := [(2, ([0, 1, 7, 8, 9], []))]
theorem f92_spec (n1 : Bool) (l : List Lit) (n : Int) (out : List Fr) : SpecP Try.prog 92 [.int n, .lits n1 l] out fun r ro => r = .bool (condB l n) ∧ ro = [] := by
  refine spec_body cx_ok kp92 od92 (fn := Try.f92) (by kernel_rfl) rfl (by kernel_rfl) rfl (by unfold FnOK; kernel_rfl) fun hok => ?_
  have hmx := le_max hok.2.1.1
  have hlen : (l.map (·.fact)).length = l.length := List.length_map ..
  refine LoopW.mk Nat (fun i => i ≤ l.length ∧ (List.range i).all (chkI (l.map (·.fact)) n) = true) (fun i => [(0, .int n), (1, .lits n1 l), (7, .lits n1 l), (8, .int (l.map tLit).length), (9, .int i)]) (fun _ => ⟨out, []⟩) (fun i => l.length - i) 0 ⟨Nat.zero_le _, rfl⟩ ⟨rfl, rfl⟩ fun i hI => ?_
  refine And.intro (fun h1 => ?_) fun h1 => ?_
  · have hi := lt_of_dec h1
    have hi' : i < (l.map (·.fact)).length := by rw [hlen]; exact hi
    have ha := atF_eq hi
    refine And.intro (by omega) (Exists.intro _ (And.intro (get_map hi) ?_))
    refine And.intro (fun h2 => ?_) fun h2 => ?_
    · exact Exists.intro [] (ret_bool (range_false hi' (by simp [chkI, ha]; simp at h2; omega)) rfl)
    · refine And.intro (fun h3 => ?_) fun h3 => ?_
      · exact Exists.intro [] (ret_bool (range_false hi' (by simp [chkI, ha]; simp at h2 h3; omega)) rfl)
      · refine And.intro (fun h4 => ?_) fun h4 => ?_
        · have h0 : 0 < i := by simp at h4; omega
          have hp := atF_eq (l := l) (i := i - 1) (by omega)
          refine And.intro (by omega) (And.intro (by omega) (And.intro (by omega) (Exists.intro _ (And.intro (get_pred hi h0) ?_))))
          refine And.intro (fun h5 => ?_) fun h5 => ?_
          · exact Exists.intro [] (ret_bool (range_false hi' (by simp [chkI, ha, hp]; simp at h2 h3 h5; omega)) rfl)
          · refine And.intro (by omega) (And.intro (by omega) ?_)
            exact Exists.intro (i + 1) (And.intro (by show l.length - (i + 1) < l.length - i; omega) (And.intro ⟨hi, range_step hI.2 (by simp [chkI, ha, hp]; simp at h2 h3 h5; omega)⟩ (And.intro rfl rfl)))
        · have h0 : i = 0 := by simp at h4; omega
          refine And.intro (by omega) (And.intro (by omega) ?_)
          exact Exists.intro (i + 1) (And.intro (by show l.length - (i + 1) < l.length - i; omega) (And.intro ⟨hi, range_step hI.2 (by simp [chkI, ha]; simp at h2 h3; omega)⟩ (And.intro rfl rfl)))
  · have hi : i = l.length := by have := hI.1; have := ge_of_dec h1; omega
    exact Exists.intro [] (ret_bool (by have := hI.2; rw [hi, ← hlen] at this; exact this) rfl)

theorem f104_spec (c : Int) (out : List Fr) : SpecP Try.prog 104 [.byte c] out fun r ro => r = .bool (letterB c) ∧ ro = [] := by
  refine spec_body cx_ok [] [] (fn := Try.f104) (by kernel_rfl) rfl (by kernel_rfl) rfl (by unfold FnOK; kernel_rfl) fun hok => ?_
  refine And.intro (fun h1 => ?_) fun h1 => ?_
  · refine And.intro (fun h2 => ?_) fun h2 => ?_
    · exact Exists.intro [] (ret_bool (by simp [letterB]; simp at h1 h2; omega) rfl)
    · refine And.intro (fun h3 => ?_) fun h3 => ?_
      · refine And.intro (fun h4 => ?_) fun h4 => ?_
        · exact Exists.intro [] (ret_bool (by simp [letterB]; simp at h1 h2 h3 h4; omega) rfl)
        · exact Exists.intro [] (ret_bool (by simp [letterB]; simp at h1 h2 h3 h4; omega) rfl)
      · exact Exists.intro [] (ret_bool (by simp [letterB]; simp at h1 h2 h3; omega) rfl)
  · refine And.intro (fun h3 => ?_) fun h3 => ?_
    · refine And.intro (fun h4 => ?_) fun h4 => ?_
      · exact Exists.intro [] (ret_bool (by simp [letterB]; simp at h1 h3 h4; omega) rfl)
      · exact Exists.intro [] (ret_bool (by simp [letterB]; simp at h1 h3 h4; omega) rfl)
    · exact Exists.intro [] (ret_bool (by simp [letterB]; simp at h1 h3; omega) rfl)


end Go.Fw

/- What the program's functions do, part 11: the first place of a byte; package task's names. -/
namespace Go.Fw
open Go Go.Proofs
set_option maxRecDepth 10000

def idxB (s : ByteArray) (c : Int) : Int := Lib.indexByte s.data.toList c.toNat.toUInt8
theorem f116_spec (s : ByteArray) (c : Int) (out : List Fr) : SpecP Try.prog 116 [.str s, .byte c] out fun r ro => r = .int (idxB s c) ∧ ro = [] := by
  refine spec_body cx_ok [] [] (fn := Try.f116) (by kernel_rfl) rfl (by kernel_rfl) rfl (by unfold FnOK; kernel_rfl) fun hok => ?_
  rintro _ rfl
  exact Exists.intro [] (And.intro rfl rfl)
theorem f105_spec (s : ByteArray) (c : Int) (out : List Fr) : SpecP Try.prog 105 [.str s, .byte c] out fun r ro => r = .int (idxB s c) ∧ ro = [] := by
  refine spec_body cx_ok [] [] (fn := Try.f105) (by kernel_rfl) rfl (by kernel_rfl) rfl (by unfold FnOK; kernel_rfl) fun hok => ?_
  refine SpecP.mono (f116_spec s c []) ?_
  rintro _ _ ⟨rfl, rfl⟩
  exact Exists.intro [] (And.intro rfl rfl)

theorem idx_neg (l : List UInt8) (c : UInt8) : Lib.indexByte l c < 0 ↔ ∀ b ∈ l, b ≠ c := by
  induction l with
  | nil => simp [Lib.indexByte]
  | cons b l ih =>
    have hge := Lib.indexByte_ge l c
    rw [Lib.indexByte]
    by_cases hb : b = c
    · simp [hb]
    · have : (b == c) = false := by simpa using hb
      simp only [this, Bool.false_eq_true, if_false]
      simp only [List.mem_cons, forall_eq_or_imp, ne_eq, hb, not_false_eq_true, true_and]
      rw [← show (∀ a ∈ l, a ≠ c) ↔ _ from Iff.rfl, ← ih]
      split
      · rename_i h; simp at h; omega
      · rename_i h; simp at h; omega
theorem idx_within {c : Int} (hc : ∃ b : UInt8, c = (b.toNat : Int)) : decide (idxB punct c < 0) = !withinB punct c := by
  obtain ⟨b, rfl⟩ := hc
  have h : idxB punct (b.toNat : Int) < 0 ↔ ∀ x ∈ punct.data.toList, x ≠ b := by
    unfold idxB
    rw [idx_neg]
    have : ((b.toNat : Int)).toNat.toUInt8 = b := by simp
    rw [this]
  have hw : withinB punct (b.toNat : Int) = punct.data.toList.any (· == b) := by
    have e : ∀ i, (byAt punct i == (b.toNat : Int)) = (punct.data[i]?.getD 0 == b) := by
      intro i
      rw [byAt]
      by_cases h : punct.data[i]?.getD 0 = b
      · rw [h]; simp
      · have : (punct.data[i]?.getD 0).toNat ≠ b.toNat := fun hh => h (UInt8.toNat_inj.1 hh)
        have h2 : (((punct.data[i]?.getD 0).toNat : Int) == (b.toNat : Int)) = false := by simp; omega
        have h3 : (punct.data[i]?.getD 0 == b) = false := by simpa using h
        rw [h2, h3]
    unfold withinB
    simp only [e]
    rfl
  rw [hw]
  cases hh : punct.data.toList.any (· == b) with
  | true =>
    obtain ⟨x, hx, hxb⟩ := List.any_eq_true.1 hh
    simp only [Bool.not_true, decide_eq_false_iff_not]
    rw [h]
    intro hf
    exact hf x hx (by simpa using hxb)
  | false =>
    simp only [Bool.not_false, decide_eq_true_eq]
    rw [h]
    intro x hx hxb
    have := List.any_eq_false.1 hh x hx
    simp [hxb] at this

theorem byAt_u8 (s : ByteArray) (i : Nat) : ∃ b : UInt8, byAt s i = (b.toNat : Int) := ⟨_, rfl⟩
def kp93 : Kp := [(4, ([0, 19, 20], []))]
theorem eq_empty {s : ByteArray} {b : Bool} (h : (s.toList == (⟨#[]⟩ : ByteArray).toList) = b) : b = decide (s.size = 0) := by
  rw [Lib.toList_data, Lib.toList_data] at h
  have hsz : s.size = s.data.toList.length := by rw [Array.length_toList]; rfl
  rw [← h, hsz]
  generalize s.data.toList = l
  cases l with
  | nil => rfl
  | cons _ _ => rfl
theorem f93_spec (s : ByteArray) (out : List Fr) : SpecP Try.prog 93 [.str s] out fun r ro => r = .bool (nameB s) ∧ ro = [] := by
  refine spec_body cx_ok kp93 [] (fn := Try.f93) (by kernel_rfl) rfl (by kernel_rfl) rfl (by unfold FnOK; kernel_rfl) fun hok => ?_
  refine And.intro (fun h1 => ?_) fun h1 => ?_
  · exact Exists.intro [] (ret_bool (by have h0 : s.size = 0 := of_decide_eq_true (eq_empty h1).symm; rw [nameB, h0]; rfl) rfl)
  refine And.intro (fun h2 => ?_) fun h2 => ?_
  · exact Exists.intro [] (ret_bool (by simp [nameB]; simp at h2; omega) rfl)
  have hs : 1 ≤ s.size ∧ s.size ≤ 40 := by have h0 : ¬ s.size = 0 := of_decide_eq_false (eq_empty h1).symm; simp at h2; omega
  refine And.intro (by decide) (Exists.intro _ (And.intro (byAt_get (i := 0) hs.1) ?_))
  refine SpecP.mono (f104_spec (byAt s 0) []) ?_
  rintro r ro ⟨rfl, rfl⟩
  refine And.intro (fun h3 => ?_) fun h3 => ?_
  · refine LoopW.mk Nat (fun i => i ≤ s.size ∧ (List.range i).all (fun i => okB (byAt s i)) = true) (fun i => [(0, .str s), (19, .int s.size), (20, .int i)]) (fun _ => ⟨out, []⟩) (fun i => s.size - i) 0 ⟨Nat.zero_le _, rfl⟩ ⟨rfl, rfl⟩ fun i hI => ?_
    refine And.intro (fun h4 => ?_) fun h4 => ?_
    · have hi : i < s.size := by simpa using h4
      refine And.intro (by omega) (Exists.intro _ (And.intro (byAt_get hi) ?_))
      refine SpecP.mono (f104_spec (byAt s i) []) ?_
      rintro r ro ⟨rfl, rfl⟩
      have next : okB (byAt s i) = true → ∀ {p : Prop}, ((s.size - (i + 1) < s.size - i) → (i + 1 ≤ s.size ∧ (List.range (i + 1)).all (fun i => okB (byAt s i)) = true) → p) → p := fun h _ hp => hp (by omega) ⟨hi, range_step hI.2 h⟩
      refine And.intro (fun h5 => ?_) fun h5 => ?_
      · refine And.intro (by omega) (And.intro (by omega) ?_)
        exact Exists.intro (i + 1) (And.intro (by show s.size - (i + 1) < s.size - i; omega) (And.intro ⟨hi, range_step hI.2 (by simp [okB, h5])⟩ (And.intro rfl rfl)))
      · have hd : ∀ b, okB (byAt s i) = b → decide (48 ≤ byAt s i) = true ∧ decide (byAt s i ≤ 57) = true → b = true := fun b hb ⟨g1, g2⟩ => by rw [← hb]; simp only [okB, digitB, g1, g2]; simp
        refine And.intro (fun h6 => ?_) fun h6 => ?_
        · refine SpecP.mono (f105_spec punct (byAt s i) []) ?_
          rintro r ro ⟨rfl, rfl⟩
          have hx := idx_within (byAt_u8 s i)
          have hdig : digitB (byAt s i) = false := by have g6 : byAt s i < 48 := of_decide_eq_true h6; simp only [digitB, Bool.and_eq_false_iff, decide_eq_false_iff_not]; omega
          refine And.intro (fun h7 => ?_) fun h7 => ?_
          · rw [h7] at hx
            exact Exists.intro [] (ret_bool (by rw [nameB, range_false hi (by simp at hx; simp [okB, h5, hdig, hx])]; simp) rfl)
          · rw [h7] at hx
            refine And.intro (by omega) (And.intro (by omega) ?_)
            exact Exists.intro (i + 1) (And.intro (by show s.size - (i + 1) < s.size - i; omega) (And.intro ⟨hi, range_step hI.2 (by simp at hx; simp [okB, hx])⟩ (And.intro rfl rfl)))
        · refine And.intro (fun h8 => ?_) fun h8 => ?_
          · refine SpecP.mono (f105_spec punct (byAt s i) []) ?_
            rintro r ro ⟨rfl, rfl⟩
            have hx := idx_within (byAt_u8 s i)
            have hdig : digitB (byAt s i) = false := by have g8 : byAt s i > 57 := of_decide_eq_true h8; simp only [digitB, Bool.and_eq_false_iff, decide_eq_false_iff_not]; omega
            refine And.intro (fun h7 => ?_) fun h7 => ?_
            · rw [h7] at hx
              exact Exists.intro [] (ret_bool (by rw [nameB, range_false hi (by simp at hx; simp [okB, h5, hdig, hx])]; simp) rfl)
            · rw [h7] at hx
              refine And.intro (by omega) (And.intro (by omega) ?_)
              exact Exists.intro (i + 1) (And.intro (by show s.size - (i + 1) < s.size - i; omega) (And.intro ⟨hi, range_step hI.2 (by simp at hx; simp [okB, hx])⟩ (And.intro rfl rfl)))
          · have hdig : digitB (byAt s i) = true := by have g6 : ¬ byAt s i < 48 := of_decide_eq_false h6; have g8 : ¬ byAt s i > 57 := of_decide_eq_false h8; simp only [digitB, Bool.and_eq_true, decide_eq_true_eq]; omega
            refine And.intro (by omega) (And.intro (by omega) ?_)
            exact Exists.intro (i + 1) (And.intro (by show s.size - (i + 1) < s.size - i; omega) (And.intro ⟨hi, range_step hI.2 (by simp [okB, hdig])⟩ (And.intro rfl rfl)))
    · have hi : i = s.size := by have := hI.1; simp at h4; omega
      have h5 := hI.2
      rw [hi] at h5
      exact Exists.intro [] (ret_bool (by rw [nameB, h5, h3]; simp; omega) rfl)
  · exact Exists.intro [] (ret_bool (by simp [nameB, h3]) rfl)

end Go.Fw

/- What the program's functions do, part 12: Few: it comes back; its sums may wrap. -/
namespace Go.Fw
open Go Go.Proofs
set_option maxRecDepth 10000

theorem wrap64 {n : Int} (h : -9223372036854775808 ≤ n) (h2 : n ≤ 9223372036854775807) : IntKind.i64.wrap n = n := wrap_in h h2
theorem ret_any {b : Bool} {ro : Fr} (h2 : ro = []) : ∃ c : Bool, LV.t (.v (.bool b)) = .bool c ∧ ro = [] := ⟨b, rfl, h2⟩

def kp8 : Kp := [(5, ([1, 2, 5, 31, 32, 33], [16])), (11, ([1, 5, 43, 44, 45], [])), (17, ([1, 5, 43, 44, 45, 69, 70, 71], []))]
theorem f8_spec (t : Task) (most : Int) (out : List Fr) : SpecP Try.prog 8 [.task t, .int most] out fun r ro => ∃ b : Bool, r = .bool b ∧ ro = [] := by
  refine spec_body cxw_ok kp8 [] (fn := Try.f8) (by kernel_rfl) rfl (by kernel_rfl) rfl (by unfold FnOK; kernel_rfl) fun hok => ?_
  have hfm := le_max hok.1.1.1
  have ham := le_max hok.1.2.2.2.1.1
  have hae : ∀ a ∈ t.acts, (a.effs.length : Int) ≤ 9223372036854775807 := fun a ha => by
    have h1 := hok.1.2.2.2.1.2
    have h2 := okEs_iff.1 h1 (tAct a) (List.mem_map_of_mem ha) (.sl a.en 3 (a.effs.map tEff)) (by simp [tAct])
    exact le_max h2.1
  intro m1 _ m2 _ m3 _
  refine And.intro (fun h1 => ?_) fun h1 => ?_
  · exact Exists.intro [] (ret_any rfl)
  refine LoopW.mk Nat (fun i => i ≤ t.facts.length) (fun i => [(1, .int most), (2, .ptr (.cur 16) 0), (5, .int m3), (31, .t (.sl t.fn 1 (t.facts.map tS))), (32, .int (t.facts.map tS).length), (33, .int i)])
    (fun _ => ⟨out, [(16, .box [.t (.sl t.fn 1 (t.facts.map tS)), .t (.sl t.ni 1 (t.init.map tI)), .t (.sl t.gn 2 (t.goal.map tLit)), .t (.sl t.an 4 (t.acts.map tAct))])]⟩) (fun i => t.facts.length - i) 0 (Nat.zero_le _) ⟨rfl, rfl⟩ fun i hI => ?_
  refine And.intro (fun h2 => ?_) fun h2 => ?_
  · have hi := lt_of_dec h2
    refine And.intro (by omega) (Exists.intro _ (And.intro (get_map hi) ?_))
    refine And.intro (fun h3 => ?_) fun h3 => ?_
    · exact Exists.intro [] (ret_any rfl)
    · intro m hm
      rw [wrap64 (by omega) (by omega)] at hm
      subst hm
      exact Exists.intro (i + 1) (And.intro (by show t.facts.length - (i + 1) < t.facts.length - i; omega) (And.intro hi (And.intro rfl rfl)))
  refine LoopW.mk (Nat × Int) (fun p => p.1 ≤ t.acts.length) (fun p => [(1, .int most), (5, .int p.2), (43, .t (.sl t.an 4 (t.acts.map tAct))), (44, .int (t.acts.map tAct).length), (45, .int p.1)])
    (fun _ => ⟨out, []⟩) (fun p => t.acts.length - p.1) (0, m3) (Nat.zero_le _) ⟨rfl, rfl⟩ ?_
  rintro ⟨j, n⟩ hJ
  simp only at hJ
  refine And.intro (fun h4 => ?_) fun h4 => ?_
  · have hj : j < t.acts.length := lt_of_dec h4
    refine And.intro (by omega) (Exists.intro _ (And.intro (get_map hj) ?_))
    intro n1 _ n2 _
    have hel := hae _ (List.getElem_mem hj)
    have loop : ∀ {p : Prop}, p → p := fun h => h
    refine And.intro (fun h5 => ?_) fun h5 => ?_
    · exact Exists.intro [] (ret_any rfl)
    refine And.intro (fun h6 => ?_) fun h6 => ?_
    · exact Exists.intro [] (ret_any rfl)
    refine LoopW.mk (Nat × Int) (fun p => p.1 ≤ t.acts[j].effs.length) (fun p => [(1, .int most), (5, .int p.2), (43, .t (.sl t.an 4 (t.acts.map tAct))), (44, .int (t.acts.map tAct).length), (45, .int j), (69, .t (.sl t.acts[j].en 3 (t.acts[j].effs.map tEff))), (70, .int (t.acts[j].effs.map tEff).length), (71, .int p.1)])
      (fun _ => ⟨out, []⟩) (fun p => t.acts[j].effs.length - p.1) (0, n2) (Nat.zero_le _) ⟨rfl, rfl⟩ ?_
    rintro ⟨k, q⟩ hK
    simp only at hK
    refine And.intro (fun h7 => ?_) fun h7 => ?_
    · have hk : k < t.acts[j].effs.length := lt_of_dec h7
      refine And.intro (by omega) (Exists.intro _ (And.intro (get_map hk) ?_))
      intro q1 _ m hm
      rw [wrap64 (by omega) (by omega)] at hm
      subst hm
      exact Exists.intro (k + 1, q1) (And.intro (by show t.acts[j].effs.length - (k + 1) < t.acts[j].effs.length - k; omega) (And.intro hk (And.intro rfl rfl)))
    · intro m hm
      rw [wrap64 (by omega) (by omega)] at hm
      subst hm
      exact Exists.intro (j + 1, q) (And.intro (by show t.acts.length - (j + 1) < t.acts.length - j; omega) (And.intro hj (And.intro rfl rfl)))
  · refine And.intro (fun h8 => ?_) fun h8 => ?_
    · exact Exists.intro [] (ret_any rfl)
    · exact Exists.intro [] (ret_any rfl)
end Go.Fw

/- What the program's functions do, part 13: Valid. -/
namespace Go.Fw
open Go Go.Proofs
set_option maxRecDepth 10000

def kp49 : Kp := [(6, ([1, 3, 4, 38, 39, 40], [8, 288])), (14, ([3, 4, 57, 58, 59], [440])), (20, ([3, 4, 57, 58, 59, 100, 101, 102], [440]))]
theorem f49_spec (t : Task) (out : List Fr) : SpecP Try.prog 49 [.task t] out fun r ro => r = .bool (isB t) ∧ ro = [] := by
  refine spec_body cx_ok kp49 [] (fn := Try.f49) (by kernel_rfl) rfl (by kernel_rfl) rfl (by unfold FnOK; kernel_rfl) fun hok => ?_
  have hfm := le_max hok.1.1.1
  have ham := le_max hok.1.2.2.2.1.1
  refine And.intro (fun h1 => ?_) fun h1 => ?_
  · exact Exists.intro [] (ret_bool (by simp at h1; simp [isB]; omega) rfl)
  refine And.intro (fun h2 => ?_) fun h2 => ?_
  · exact Exists.intro [] (ret_bool (by simp at h2; simp [isB]; omega) rfl)
  refine SpecP.mono (f66_spec t.ni t.init (t.facts.map tS).length []) ?_
  rintro _ _ ⟨rfl, rfl⟩
  rw [List.length_map]
  refine And.intro (fun h3 => ?_) fun h3 => ?_
  rotate_left
  · exact Exists.intro [] (ret_bool (by simp [isB, h3]) rfl)
  refine SpecP.mono (f92_spec t.gn t.goal t.facts.length []) ?_
  rintro _ _ ⟨rfl, rfl⟩
  refine And.intro (fun h4 => ?_) fun h4 => ?_
  rotate_left
  · exact Exists.intro [] (ret_bool (by simp [isB, h4]) rfl)
  have hl1 : t.facts.length ≤ 200 := by simp at h1; omega
  have hl2 : t.acts.length ≤ 1000 := by simp at h2; omega
  refine LoopW.mk Nat (fun i => i ≤ t.facts.length ∧ (List.range i).all (chkS t.facts) = true)
    (fun i => [(1, .ptr (.cur 8) 0), (3, .int t.facts.length), (4, .mpr (.cur 288)), (38, .t (.sl t.fn 1 (t.facts.map tS))), (39, .int (t.facts.map tS).length), (40, .int i)])
    (fun i => ⟨out, [(8, .box [.t (.sl t.fn 1 (t.facts.map tS)), .t (.sl t.ni 1 (t.init.map tI)), .t (.sl t.gn 2 (t.goal.map tLit)), .t (.sl t.an 4 (t.acts.map tAct))]), (288, .mp .str (kvS (t.facts.take i)))]⟩) (fun i => t.facts.length - i) 0 ⟨Nat.zero_le _, rfl⟩ ⟨rfl, rfl⟩ fun i hI => ?_
  refine And.intro (fun h5 => ?_) fun h5 => ?_
  · have hi := lt_of_dec h5
    have ha : atS t.facts i = t.facts[i] := by simp [atS, hi]
    have hno : chkS t.facts i = false → isB t = false := fun h => by
      have : namesB t.facts = false := range_false hi h
      simp [isB, this]
    refine And.intro (by omega) (Exists.intro _ (And.intro (get_map hi) ?_))
    refine SpecP.mono (f93_spec t.facts[i] []) ?_
    rintro _ _ ⟨rfl, rfl⟩
    refine And.intro (fun h6 => ?_) fun h6 => ?_
    · refine Exists.intro _ (And.intro (look_kvS _ _) ?_)
      refine And.intro (fun h7 => ?_) fun h7 => ?_
      · exact Exists.intro [] (ret_bool (hno (by simp only [chkS, ha, h7]; simp)) rfl)
      · refine And.intro (by omega) (And.intro (by omega) ?_)
        refine Exists.intro (i + 1) (And.intro (by show t.facts.length - (i + 1) < t.facts.length - i; omega) (And.intro ⟨hi, range_step hI.2 (by simp only [chkS, ha, h6, h7]; simp)⟩ (And.intro rfl ?_)))
        have e : updKV (.string t.facts[i]) (.v (.bool true)) (kvS (t.facts.take i)) = kvS (t.facts.take (i + 1)) := by
          rw [upd_kvS _ _ h7, List.take_add_one]; simp [hi]
        show (⟨out, [_, (288, .mp .str (updKV (.string t.facts[i]) (.v (.bool true)) (kvS (t.facts.take i))))]⟩ : St) = _
        rw [e]
    · exact Exists.intro [] (ret_bool (hno (by simp only [chkS, ha, h6]; simp)) rfl)
  have hi : i = t.facts.length := by have := hI.1; have := ge_of_dec h5; omega
  have hnf : namesB t.facts = true := by have := hI.2; rw [hi] at this; exact this
  clear hI h5
  have hln : (t.acts.map (·.name)).length = t.acts.length := List.length_map ..
  refine LoopW.mk Nat (fun i => i ≤ t.acts.length ∧ (List.range i).all (chkS (t.acts.map (·.name))) = true ∧ (t.acts.take i).all (actB t.facts.length) = true)
    (fun i => [(3, .int t.facts.length), (4, .mpr (.cur 440)), (57, .t (.sl t.an 4 (t.acts.map tAct))), (58, .int (t.acts.map tAct).length), (59, .int i)])
    (fun i => ⟨out, [(440, .mp .str (kvS ((t.acts.map (·.name)).take i)))]⟩) (fun i => t.acts.length - i) 0 ⟨Nat.zero_le _, rfl, rfl⟩ ⟨rfl, rfl⟩ ?_
  intro i ⟨hi0, hnm, hall⟩
  refine And.intro (fun h6 => ?_) fun h6 => ?_
  · have hi : i < t.acts.length := lt_of_dec h6
    have hi' : i < (t.acts.map (·.name)).length := by rw [hln]; exact hi
    have ha : atS (t.acts.map (·.name)) i = t.acts[i].name := by simp [atS, hi]
    have hno : chkS (t.acts.map (·.name)) i = false → isB t = false := fun h => by
      have : namesB (t.acts.map (·.name)) = false := range_false hi' h
      simp [isB, this]
    have hact : ∀ (h : actB t.facts.length t.acts[i] = false), isB t = false := fun h => by simp [isB, all_false hi h]
    refine And.intro (by omega) (Exists.intro _ (And.intro (get_map hi) ?_))
    refine SpecP.mono (f93_spec t.acts[i].name []) ?_
    rintro _ _ ⟨rfl, rfl⟩
    refine And.intro (fun h7 => ?_) fun h7 => ?_
    rotate_left
    · exact Exists.intro [] (ret_bool (hno (by simp only [chkS, ha, h7]; simp)) rfl)
    refine Exists.intro _ (And.intro (look_kvS _ _) ?_)
    refine And.intro (fun h8 => ?_) fun h8 => ?_
    · exact Exists.intro [] (ret_bool (hno (by simp only [chkS, ha, h8]; simp)) rfl)
    refine And.intro (fun h9 => ?_) fun h9 => ?_
    · exact Exists.intro [] (ret_bool (hact (by simp at h9; simp [actB]; omega)) rfl)
    refine And.intro (fun h10 => ?_) fun h10 => ?_
    · exact Exists.intro [] (ret_bool (hact (by simp at h10; simp [actB]; omega)) rfl)
    refine SpecP.mono (f92_spec t.acts[i].pn t.acts[i].pre t.facts.length []) ?_
    rintro _ _ ⟨rfl, rfl⟩
    refine And.intro (fun h11 => ?_) fun h11 => ?_
    rotate_left
    · exact Exists.intro [] (ret_bool (hact (by simp [actB, h11])) rfl)
    refine And.intro (fun h12 => ?_) fun h12 => ?_
    · exact Exists.intro [] (ret_bool (hact (by simp at h12; simp [actB]; omega)) rfl)
    have hel : t.acts[i].effs.length ≤ 100 := by simp at h12; omega
    have e : updKV (.string t.acts[i].name) (.v (.bool true)) (kvS ((t.acts.map (·.name)).take i)) = kvS ((t.acts.map (·.name)).take (i + 1)) := by
      rw [upd_kvS _ _ h8, List.take_add_one]; simp [hi]
    refine LoopW.mk Nat (fun j => j ≤ t.acts[i].effs.length ∧ (t.acts[i].effs.take j).all (effB t.facts.length) = true)
      (fun j => [(3, .int t.facts.length), (4, .mpr (.cur 440)), (57, .t (.sl t.an 4 (t.acts.map tAct))), (58, .int (t.acts.map tAct).length), (59, .int i), (100, .t (.sl t.acts[i].en 3 (t.acts[i].effs.map tEff))), (101, .int (t.acts[i].effs.map tEff).length), (102, .int j)])
      (fun j => ⟨out, [(440, .mp .str (kvS ((t.acts.map (·.name)).take (i + 1))))]⟩) (fun j => t.acts[i].effs.length - j) 0 ⟨Nat.zero_le _, rfl⟩ ⟨rfl, by rw [← e]; rfl⟩ fun j hJ => ?_
    refine And.intro (fun k1 => ?_) fun k1 => ?_
    · have hj : j < t.acts[i].effs.length := lt_of_dec k1
      have heff : ∀ (h : effB t.facts.length t.acts[i].effs[j] = false), isB t = false := fun h => hact (by simp [actB, all_false hj h])
      refine And.intro (by omega) (Exists.intro _ (And.intro (get_map hj) ?_))
      refine SpecP.mono (f92_spec t.acts[i].effs[j].nil t.acts[i].effs[j].when_ t.facts.length []) ?_
      rintro _ _ ⟨rfl, rfl⟩
      refine And.intro (fun k2 => ?_) fun k2 => ?_
      rotate_left
      · exact Exists.intro [] (ret_bool (heff (by simp [effB, k2])) rfl)
      refine And.intro (fun k3 => ?_) fun k3 => ?_
      · exact Exists.intro [] (ret_bool (heff (by simp at k3; simp [effB]; omega)) rfl)
      refine And.intro (fun k4 => ?_) fun k4 => ?_
      · exact Exists.intro [] (ret_bool (heff (by simp at k4; simp [effB]; omega)) rfl)
      refine And.intro (by omega) (And.intro (by omega) ?_)
      exact Exists.intro (j + 1) (And.intro (by show t.acts[i].effs.length - (j + 1) < t.acts[i].effs.length - j; omega) (And.intro ⟨hj, all_step hj hJ.2 (by simp at k3 k4; simp [effB, k2]; omega)⟩ (And.intro rfl rfl)))
    · have he : t.acts[i].effs.all (effB t.facts.length) = true := all_end (ge_of_dec k1) hJ.2
      have hb : actB t.facts.length t.acts[i] = true := by simp at h9 h10 h12; simp [actB, h11, he]; omega
      refine And.intro (by omega) (And.intro (by omega) ?_)
      exact Exists.intro (i + 1) (And.intro (by show t.acts.length - (i + 1) < t.acts.length - i; omega) (And.intro ⟨hi, range_step hnm (by simp only [chkS, ha, h7, h8]; simp), all_step hi hall hb⟩ (And.intro rfl rfl)))
  · have hi : i = t.acts.length := by have := ge_of_dec h6; omega
    have hn2 : namesB (t.acts.map (·.name)) = true := by unfold namesB; rw [hln, ← hi]; exact hnm
    rw [hi, List.take_length] at hall
    exact Exists.intro [] (ret_bool (by simp [isB, h3, h4, hl1, hl2, hall, hnf, hn2]) rfl)

end Go.Fw

/- What the program's functions do, part 14: binary search; functions that take functions. -/
namespace Go.Fw
open Go Go.Proofs
set_option maxRecDepth 10000

theorem rising_lt {l : List Int} {n : Int} (h : risingB l n = true) : ∀ j i (hj : j < l.length) (hi : i < j), l[i]'(by omega) < l[j] := by
  have hs : ∀ i, i < l.length → chkI l n i = true := fun i hi => List.all_eq_true.1 h i (List.mem_range.2 hi)
  intro j
  induction j with
  | zero => intro i _ hi; omega
  | succ j ih =>
    intro i hj hi
    have h1 := hs (j + 1) hj
    simp only [chkI, Bool.and_eq_true, Bool.or_eq_true, decide_eq_true_eq, beq_iff_eq] at h1
    have h2 : l[j]'(by omega) < l[j + 1] := by
      rcases h1.2 with h1 | h1
      · omega
      · rw [Nat.add_sub_cancel] at h1
        rwa [at0_eq hj, at0_eq (show j < l.length by omega)] at h1
    rcases Nat.lt_or_ge i j with hij | hij
    · exact Int.lt_trans (ih i (by omega) hij) h2
    · have : i = j := by omega
      subst this; exact h2
theorem rising_in {l : List Int} {n : Int} (h : risingB l n = true) : ∀ x ∈ l, 0 ≤ x ∧ x < n := fun x hx => by
  obtain ⟨i, hi, rfl⟩ := List.getElem_of_mem hx
  have := List.all_eq_true.1 h i (List.mem_range.2 hi)
  simp only [chkI, Bool.and_eq_true, decide_eq_true_eq, at0_eq hi] at this
  exact this.1

theorem rising_len {l : List Int} {n : Int} (h : risingB l n = true) (hn : n ≤ 1000000000) : l.length ≤ 1000000000 := by
  have key : ∀ i (hi : i < l.length), (i : Int) ≤ l[i] := by
    intro i
    induction i with
    | zero => intro hi; exact (rising_in h _ (List.getElem_mem hi)).1
    | succ i ih => intro hi; have := ih (by omega); have := rising_lt h (i + 1) i hi (by omega); omega
  rcases Nat.eq_zero_or_pos l.length with h0 | h0
  · omega
  · have h1 := key (l.length - 1) (by omega)
    have h2 := (rising_in h _ (List.getElem_mem (show l.length - 1 < l.length by omega))).2
    omega
def kp100 : Kp := [(3, ([0, 1, 6, 7, 8], []))]
end Go.Fw

/- What the program's functions do, part 15: functions that take functions; True, Fine, all. -/
namespace Go.Fw
open Go Go.Proofs
set_option maxRecDepth 10000

def od87 : Od := [(1, [(0, .pure), (1, .pure), (2, .pure), (4, .pure), (5, .pure), (3, .eff), (6, .pure), (7, .pure)])]
theorem not_any {l : List Lit} {p q : Lit → Bool} (h : ∀ x, q x = !p x) : l.all q = !l.any p := by
  induction l with
  | nil => rfl
  | cons x r ih => simp only [List.all_cons, List.any_cons, ih, h, Bool.not_or]

def fineI (t : Task) (s : List Int) : Int := if isB t then (if risingB s t.facts.length then 0 else 20) else 10
theorem f37_spec (t : Task) (n1 : Bool) (s : List Int) (out : List Fr) : SpecP Try.prog 37 [.task t, .ints n1 s] out fun r ro => r = .int (fineI t s) ∧ ro = [] := by
  refine spec_body cx_ok [] [] (fn := Try.f37) (by kernel_rfl) rfl (by kernel_rfl) rfl (by unfold FnOK; kernel_rfl) fun hok => ?_
  refine SpecP.mono (f49_spec t []) ?_
  rintro _ _ ⟨rfl, rfl⟩
  refine And.intro (fun h1 => ?_) fun h1 => ?_
  · refine SpecP.mono (f66_spec n1 s (t.facts.map tS).length []) ?_
    rintro _ _ ⟨rfl, rfl⟩
    rw [List.length_map]
    refine And.intro (fun h2 => ?_) fun h2 => ?_
    · exact Exists.intro [] ⟨by simp only [fineI, h1, h2]; rfl, rfl⟩
    · exact Exists.intro [] ⟨by simp only [fineI, h1, h2]; rfl, rfl⟩
  · exact Exists.intro [] ⟨by simp only [fineI, h1]; rfl, rfl⟩

/-! ### all -/
def bitAt (b : List Bool) (l : Lit) : Bool := b.getD (codeI l).toNat false
def inB (b : List Bool) (l : Lit) : Prop := big l.fact ∧ 0 ≤ codeI l ∧ codeI l < b.length
theorem bit_get {b : List Bool} {l : Lit} (h : inB b l) : (b.map tB)[(codeI l).toNat]? = some (tB (bitAt b l)) := by
  obtain ⟨_, h0, h1⟩ := h
  have : (codeI l).toNat < b.length := by omega
  simp [bitAt, this]

def od89 : Od := [(1, [(0, .pure), (1, .pure), (2, .eff), (3, .pure), (4, .pure), (5, .pure), (6, .pure)])]
end Go.Fw

/- What is reached: the plain law (no program in sight but for the data). -/
namespace Go.Fw
open Go Go.Proofs

inductive Rch (t : Task) (s : List Int) (cnt : Nat → Lit → Bool) : Nat → Prop
  | ini (k : Nat) (hk : k < 2 * t.facts.length) (h : (hasB s ((k / 2 : Nat) : Int) != decide (k % 2 = 1)) = true) : Rch t s cnt k
  | eff (a : Nat) (x : Actn) (e : Eff) (hx : t.acts[a]? = some x) (he : e ∈ x.effs) (hc : cnt a e.lit = true) (hp : ∀ l ∈ x.pre, Rch t s cnt (codeI l).toNat) (hw : ∀ l ∈ e.when_, Rch t s cnt (codeI l).toNat) : Rch t s cnt (codeI e.lit).toNat

structure IsR (t : Task) (s : List Int) (cnt : Nat → Lit → Bool) (b : List Bool) : Prop where
  len : b.length = 2 * t.facts.length
  iff : ∀ k, b.getD k false = true ↔ Rch t s cnt k

theorem IsR.unique {t s cnt b b'} (h : IsR t s cnt b) (h' : IsR t s cnt b') : b = b' := by
  refine List.ext_getElem (by rw [h.len, h'.len]) fun k hk hk' => ?_
  have h1 := h.iff k
  have h2 := h'.iff k
  simp only [List.getD_eq_getElem?_getD, List.getElem?_eq_getElem hk, List.getElem?_eq_getElem hk', Option.getD_some] at h1 h2
  have := h1.trans h2.symm
  cases hb : b[k] <;> cases hb' : b'[k] <;> simp [hb, hb'] at this ⊢

theorem Rch.congr {t s} {cnt cnt' : Nat → Lit → Bool} (hc : ∀ a x e, t.acts[a]? = some x → e ∈ x.effs → cnt a e.lit = cnt' a e.lit) {k : Nat} (h : Rch t s cnt k) : Rch t s cnt' k := by
  induction h with
  | ini k hk h => exact .ini k hk h
  | eff a x e hx he hcc hp hw ihp ihw => exact .eff a x e hx he (by rw [← hc a x e hx he]; exact hcc) ihp ihw
theorem IsR.congr {t s b} {cnt cnt' : Nat → Lit → Bool} (hc : ∀ a x e, t.acts[a]? = some x → e ∈ x.effs → cnt a e.lit = cnt' a e.lit) (h : IsR t s cnt b) : IsR t s cnt' b :=
  ⟨h.len, fun k => (h.iff k).trans ⟨Rch.congr hc, Rch.congr fun a x e hx he => (hc a x e hx he).symm⟩⟩

/-! ### Tasks that are valid -/
def litIn (n : Nat) (l : Lit) : Prop := 0 ≤ l.fact ∧ l.fact < n
structure TaskOK (t : Task) : Prop where
  facts : t.facts.length ≤ 200
  acts : t.acts.length ≤ 1000
  goal : ∀ l ∈ t.goal, litIn t.facts.length l
  effs : ∀ x ∈ t.acts, x.effs.length ≤ 100
  cost : ∀ x ∈ t.acts, 0 ≤ x.cost ∧ x.cost ≤ 100000
  pre : ∀ x ∈ t.acts, ∀ l ∈ x.pre, litIn t.facts.length l
  lit : ∀ x ∈ t.acts, ∀ e ∈ x.effs, litIn t.facts.length e.lit
  whn : ∀ x ∈ t.acts, ∀ e ∈ x.effs, ∀ l ∈ e.when_, litIn t.facts.length l

theorem cond_in {l : List Lit} {n : Nat} (h : condB l n = true) : ∀ x ∈ l, litIn n x := fun _ hx => rising_in h _ (List.mem_map_of_mem hx)
theorem task_ok {t : Task} (h : isB t = true) : TaskOK t := by
  simp only [isB, Bool.and_eq_true, decide_eq_true_eq] at h
  obtain ⟨⟨⟨⟨⟨⟨h1, _⟩, _⟩, h4⟩, h5⟩, h6⟩, _⟩ := h
  have ha : ∀ x ∈ t.acts, actB t.facts.length x = true := List.all_eq_true.1 h6
  have hp : ∀ x ∈ t.acts, ((0 ≤ x.cost ∧ x.cost ≤ 100000) ∧ condB x.pre t.facts.length = true) ∧ x.effs.length ≤ 100 ∧ ∀ e ∈ x.effs, effB t.facts.length e = true := fun x hx => by
    have := ha x hx
    simp only [actB, Bool.and_eq_true, decide_eq_true_eq] at this
    exact ⟨⟨⟨this.1.1.1.1, this.1.1.1.2⟩, this.1.1.2⟩, this.1.2, List.all_eq_true.1 this.2⟩
  have hq : ∀ x ∈ t.acts, ∀ e ∈ x.effs, condB e.when_ t.facts.length = true ∧ litIn t.facts.length e.lit := fun x hx e he => by
    have := (hp x hx).2.2 e he
    simp only [effB, Bool.and_eq_true, decide_eq_true_eq] at this
    exact ⟨this.1.1, this.1.2, this.2⟩
  exact ⟨h1, h5, cond_in h4, fun x hx => (hp x hx).2.1, fun x hx => (hp x hx).1.1, fun x hx => cond_in (hp x hx).1.2, fun x hx e he => (hq x hx e he).2, fun x hx e he => cond_in (hq x hx e he).1⟩

theorem litIn.inB {n : Nat} {l : Lit} {b : List Bool} (h : litIn n l) (hn : n ≤ 200) (hb : b.length = 2 * n) : inB b l := by
  obtain ⟨h0, h1⟩ := h
  refine ⟨⟨by omega, by omega⟩, ?_, ?_⟩ <;> (unfold codeI; split <;> omega)

/-! ### Bits -/
theorem getD_set {b : List Bool} {i j : Nat} {v : Bool} (hi : i < b.length) : (b.set i v).getD j false = if i = j then v else b.getD j false := by
  simp only [List.getD_eq_getElem?_getD, List.getElem?_set]
  by_cases h : i = j
  · subst h; simp [hi]
  · simp [h]
theorem getD_set_true {b : List Bool} {i j : Nat} (h : b.getD j false = true) : (b.set i true).getD j false = true := by
  by_cases hi : i < b.length
  · rw [getD_set hi]
    split
    · rfl
    · exact h
  · rw [List.set_eq_of_length_le (by omega)]; exact h
theorem falses_set {b : List Bool} {i : Nat} (hi : i < b.length) (h : b.getD i false = false) : (b.set i true).count false < b.count false := by
  have h' : b[i] = false := by simpa [hi] using h
  have hpos : 0 < b.count false := List.count_pos_iff.2 (by rw [← h']; exact List.getElem_mem hi)
  rw [List.count_set hi, h']
  simp
  omega

end Go.Fw

/- A result's own rows, given away for ever; nil slices deep in closed data. -/
namespace Go.Fw
open Go Go.Proofs
set_option maxRecDepth 10000

/-! ### Nil slices deep in closed data -/
def T.un : T → T
  | .v x => .v x
  | .sl true _ [] => .sl true 0 []
  | .sl n sz es => .sl n sz (unEs es)
where
  unEs : List (List T) → List (List T)
    | [] => []
    | el :: r => unEl el :: unEs r
  unEl : List T → List T
    | [] => []
    | x :: r => T.un x :: unEl r
theorem unEl_get : ∀ {el el' : List T}, T.un.unEl el' = T.un.unEl el → el'.length = el.length ∧ ∀ (j : Nat) (x' : T), el'[j]? = some x' → ∃ x, el[j]? = some x ∧ x'.un = x.un
  | [], [], _ => ⟨rfl, fun j x h => by simp at h⟩
  | [], _ :: _, h => by simp [T.un.unEl] at h
  | _ :: _, [], h => by simp [T.un.unEl] at h
  | x :: r, x' :: r', h => by
    simp only [T.un.unEl, List.cons.injEq] at h
    obtain ⟨h1, h2⟩ := unEl_get h.2
    refine ⟨by simp [h1], fun j y hy => ?_⟩
    cases j with
    | zero => simp at hy; subst hy; exact ⟨x, rfl, h.1⟩
    | succ j => simpa using h2 j y (by simpa using hy)
theorem unEs_get : ∀ {es es' : List (List T)}, T.un.unEs es' = T.un.unEs es → es'.length = es.length ∧ ∀ (i : Nat) (e' : List T), es'[i]? = some e' → ∃ e, es[i]? = some e ∧ T.un.unEl e' = T.un.unEl e
  | [], [], _ => ⟨rfl, fun j x h => by simp at h⟩
  | [], _ :: _, h => by simp [T.un.unEs] at h
  | _ :: _, [], h => by simp [T.un.unEs] at h
  | x :: r, x' :: r', h => by
    simp only [T.un.unEs, List.cons.injEq] at h
    obtain ⟨h1, h2⟩ := unEs_get h.2
    refine ⟨by simp [h1], fun j y hy => ?_⟩
    cases j with
    | zero => simp at hy; subst hy; exact ⟨x, rfl, h.1⟩
    | succ j => simpa using h2 j y (by simpa using hy)
theorem un_sl {sz : Nat} {es : List (List T)} : (T.sl false sz es).un = .sl false sz (T.un.unEs es) := by cases es <;> rfl
theorem un_inv {y : T} : ∀ {sz : Nat} {es : List (List T)}, y.un = .sl false sz (T.un.unEs es) → ∃ es', y = .sl false sz es' ∧ T.un.unEs es' = T.un.unEs es := by
  intro sz es h
  match y, h with
  | .v x, h => simp [T.un] at h
  | .sl true a [], h => simp [T.un] at h
  | .sl true a (b :: r), h => simp [T.un] at h
  | .sl false a es', h => rw [un_sl] at h; simp only [T.sl.injEq, true_and] at h; exact ⟨es', by rw [h.1], h.2⟩
theorem VT.un {RO : Nat → Prop} {w : World} {x : T} {v : Value} (h : VT RO w x v) : ∀ y : T, y.un = x.un → VT RO w y v := by
  induction h with
  | v x h =>
    intro y hy
    match y, hy with
    | .v z, hy => simp only [T.un, T.v.injEq] at hy; subst hy; exact .v _ h
    | .sl true a [], hy => simp [T.un] at hy
    | .sl true a (b :: r), hy => simp [T.un] at hy
    | .sl false a es, hy => rw [un_sl] at hy; simp [T.un] at hy
  | nil sz =>
    intro y hy
    match y, hy with
    | .v z, hy => simp [T.un] at hy
    | .sl true a [], hy => exact .nil a
    | .sl true a (b :: r), hy => simp [T.un, T.un.unEs] at hy
    | .sl false a es, hy => rw [un_sl] at hy; simp [T.un] at hy
  | emp sz a c hc =>
    intro y hy
    obtain ⟨es', rfl, h2⟩ := un_inv (y := y) (sz := sz) (es := []) (by rw [hy]; rfl)
    have := (unEs_get h2).1
    have : es' = [] := List.eq_nil_of_length_eq_zero (by simpa using this)
    subst this; exact .emp sz a c hc
  | sl sz es b off c u hb hc hm hsz hcell hv ih =>
    intro y hy
    rw [un_sl] at hy
    obtain ⟨es', rfl, h2⟩ := un_inv hy
    obtain ⟨hl, hg⟩ := unEs_get h2
    rw [← hl] at hc ⊢
    refine .sl sz es' b off c u (fun ⟨i, e, j, x, hi, hj⟩ => by
      obtain ⟨e0, h3, h4⟩ := hg i e hi
      obtain ⟨x0, h5, _⟩ := (unEl_get h4).2 j x hj
      exact hb ⟨i, e0, j, x0, h3, h5⟩) hc hm (fun i e hi => ?_) (fun i e j x hi hj => ?_) fun i e j x hi hj => ?_
    · obtain ⟨e0, h3, h4⟩ := hg i e hi
      rw [(unEl_get h4).1]; exact hsz i e0 h3
    · obtain ⟨e0, h3, h4⟩ := hg i e hi
      obtain ⟨x0, h5, _⟩ := (unEl_get h4).2 j x hj
      exact hcell i e0 j x0 h3 h5
    · obtain ⟨e0, h3, h4⟩ := hg i e hi
      obtain ⟨x0, h5, h6⟩ := (unEl_get h4).2 j x hj
      exact ih i e0 j x0 h3 h5 x h6

/-! ### Closing -/
def allRO (RO : Nat → Prop) (β : K → Nat) (ro : Fr) (b : Nat) : Prop := RO b ∨ ∃ s o, look ro s = some o ∧ b = β (.cur s)

theorem get_out {out : List Fr} {ro : Fr} : ∀ {k : K} {o : Ob}, St.get ⟨out, []⟩ k = some o → St.get ⟨out, ro⟩ k = some o ∧ k.isFr = true
  | .cur s, o, h => by simp [St.get, look] at h
  | .fr i s, o, h => ⟨h, rfl⟩
  | .sub k i, o, h => by
    obtain ⟨eo, e, sz, rs, es, hg, hi, rfl⟩ := St.get_sub h
    obtain ⟨h1, h2⟩ := get_out (ro := ro) hg
    exact ⟨by simp only [St.get, h1, hi], h2⟩

theorem WR.close {w0 w : World} {β0 β : K → Nat} {RO0 RO : Nat → Prop} {out : List Fr} {ro : Fr} (h : WR (entP β0 RO0 w0) β RO ⟨out, ro⟩ w) : WR (entP β0 RO0 w0) β (allRO RO β ro) ⟨out, []⟩ w := by
  have hro : ∀ b, RO b → allRO RO β ro b := fun b hb => .inl hb
  have hcan : ∀ k o, St.get ⟨out, []⟩ k = some o → ¬ (entP β0 RO0 w0).can k := fun k o hk hc => by
    have := hc (get_out (ro := ro) hk).2
    cases this
  refine ⟨h.os, h.tape, h.output, h.size, h.keep, fun b hb => ?_, fun b hb => hro b (h.ro0 b hb), fun b hb => ?_, fun k o hk => (h.obj k o (get_out hk).1).ro hro, fun k o hk hc => (hcan k o hk hc).elim, fun k k' o o' hk hk' hc _ _ => (hcan k o hk hc).elim, fun k o hk hc => (hcan k o hk hc).elim, fun k o hk hc => hro _ (h.fzRO k o (get_out hk).1 hc), h.stay⟩
  · rcases hb with hb | ⟨s, o, hs, rfl⟩
    · exact h.roLt b hb
    · exact (h.obj (.cur s) o hs).lt
  · rcases hb with hb | ⟨s, o, hs, rfl⟩
    · exact h.roNew b hb
    · exact .inr ((h.objNew (.cur s) o hs (fun hc => by cases hc)).symm.imp id id)

/-- A value, its own row told as closed data. -/
inductive ClsV (ro : Fr) : LV → LV → Prop
  | same (x : T) : ClsV ro (.t x) (.t x)
  | row (s e sz off len : Nat) (es : List (List T)) (h : look ro s = some (.row e sz es)) (hl : off + len ≤ es.length) : ClsV ro (.osl (.cur s) sz off len) (.t (.sl false sz ((es.drop off).take len)))
  | nil (a b : Nat) : ClsV ro (.t (.sl true a [])) (.t (.sl true b []))
  | triple (a a' b b' c c' : LV) (h1 : ClsV ro a a') (h2 : ClsV ro b b') (h3 : ClsV ro c c') : ClsV ro (.tup [a, b, c]) (.tup [a', b', c'])
  | pair (a a' b b' : LV) (h1 : ClsV ro a a') (h2 : ClsV ro b b') : ClsV ro (.tup [a, b]) (.tup [a', b'])
  | agg (xs ys : List LV) (hl : xs.length = ys.length) (h : ∀ (i : Nat) (x y : LV), xs[i]? = some x → ys[i]? = some y → ClsV ro x y) : ClsV ro (.agg xs) (.agg ys)
  | un (x y : T) (h : y.un = x.un) : ClsV ro (.t x) (.t y)
  | trans (a b c : LV) (h1 : ClsV ro a b) (h2 : ClsV ro b c) : ClsV ro a c

theorem ClsV.vl' {w0 w : World} {β0 β : K → Nat} {RO0 RO : Nat → Prop} {out : List Fr} {ro : Fr} (h : WR (entP β0 RO0 w0) β RO ⟨out, ro⟩ w) {x y : LV} (hc : ClsV ro x y) : ∀ {v : Value}, VL β (allRO RO β ro) w x v → VL β (allRO RO β ro) w y v := by
  induction hc with
  | same x => intro v hv; exact hv
  | row s e sz off len es hs hl =>
    intro v hv
    have hk : St.get ⟨out, ro⟩ (.cur s) = some (.row e sz es) := hs
    exact .t _ _ (snap (fun _ h => h) (.inr ⟨s, _, hs, rfl⟩) ((h.obj (.cur s) _ hk).ro fun b hb => .inl hb) hv hl)
  | nil a b => intro v hv; exact nil_sz _ _ _ _ hv
  | triple a a' b b' c c' _ _ _ ih1 ih2 ih3 =>
    intro v hv
    cases hv with
    | tup _ vs hl hvs =>
    refine .tup _ vs (by simpa using hl) fun i x u hx hu => ?_
    match i with
    | 0 => simp at hx; subst hx; exact ih1 (hvs 0 a u rfl hu)
    | 1 => simp at hx; subst hx; exact ih2 (hvs 1 b u rfl hu)
    | 2 => simp at hx; subst hx; exact ih3 (hvs 2 c u rfl hu)
    | i + 3 => simp at hx
  | pair a a' b b' _ _ ih1 ih2 =>
    intro v hv
    cases hv with
    | tup _ vs hl hvs =>
    refine .tup _ vs (by simpa using hl) fun i x u hx hu => ?_
    match i with
    | 0 => simp at hx; subst hx; exact ih1 (hvs 0 a u rfl hu)
    | 1 => simp at hx; subst hx; exact ih2 (hvs 1 b u rfl hu)
    | i + 2 => simp at hx
  | agg xs ys hl h ih =>
    intro v hv
    cases hv with
    | agg _ vs hl' hvs h1 =>
    refine .agg _ vs (by omega) (fun i y u hy hu => ?_) h1
    have hi : i < xs.length := by rw [hl]; exact (List.getElem?_eq_some_iff.1 hy).1
    exact ih i _ y (List.getElem?_eq_getElem hi) hy (hvs i _ u (List.getElem?_eq_getElem hi) hu)
  | un x y h =>
    intro v hv
    cases hv with
    | t _ _ hv => exact .t _ _ (hv.un _ h)
  | trans _ _ _ _ _ ih1 ih2 => intro v hv; exact ih2 (ih1 hv)
theorem ClsV.vl {w0 w : World} {β0 β : K → Nat} {RO0 RO : Nat → Prop} {out : List Fr} {ro : Fr} (h : WR (entP β0 RO0 w0) β RO ⟨out, ro⟩ w) {x y : LV} (hc : ClsV ro x y) {v : Value} (hv : VL β RO w x v) : VL β (allRO RO β ro) w y v :=
  hc.vl' h (hv.ro fun _ hb => .inl hb)

theorem SpecP.close {P : Program} {f : Nat} {args : List LV} {out : List Fr} {Post Post' : LV → Fr → Prop} (h : SpecP P f args out Post) (hp : ∀ r ro, Post r ro → ∃ r', ClsV ro r r' ∧ Post' r' []) : SpecP P f args out Post' :=
  ⟨h.fn, fun β RO w vals hw hv => (h.calls β RO w vals hw hv).mono fun e w' ⟨v, r, ro, out', β', RO', he, h1, h2, h3⟩ => by
    obtain ⟨r', hc, hp'⟩ := hp r ro h1
    exact ⟨v, r', [], out', β', _, he, hp', h2.close, hc.vl h2 h3⟩⟩

/-- What was gathered, told as closed data. -/
theorem acc_cls {s e sz : Nat} {es : List (List T)} {ro : Fr} (h : ∀ x r, es = x :: r → look ro s = some (.row e sz es)) : ClsV ro (accV s sz es) (.t (.sl es.isEmpty sz es)) := by
  cases es with
  | nil => exact .nil 0 sz
  | cons x r =>
    have := ClsV.row (ro := ro) s e sz 0 (x :: r).length (x :: r) (h x r rfl) (by simp)
    rw [List.drop_zero, List.take_of_length_le (Nat.le_refl _)] at this
    exact this

end Go.Fw

/- Sets and numberings as maps. -/
namespace Go.Fw
open Go Go.Proofs

theorem St.get_fr {out : List Fr} {cur fr : Fr} {i s : Nat} {o : Ob} (h1 : out[i]? = some fr) (h2 : look fr s = some o) : St.get ⟨out, cur⟩ (.fr i s) = some (liftO (i + 1) o) := by
  simp only [St.get, h1, h2]

abbrev cellsTask (t : Task) : List LV := [.t (.sl t.fn 1 (t.facts.map tS)), .t (.sl t.ni 1 (t.init.map tI)), .t (.sl t.gn 2 (t.goal.map tLit)), .t (.sl t.an 4 (t.acts.map tAct))]
theorem take_all {α : Type} {l : List α} : l = (l.drop 0).take l.length := by rw [List.drop_zero, List.take_of_length_le (Nat.le_refl _)]

theorem lend {b : List Bool} {n : Nat} (h : b.length = n) : b.map tB = ((b.map tB).drop 0).take n := by
  rw [List.drop_zero, List.take_of_length_le (by simp [h])]
theorem lend2 {b : List Bool} {n : Nat} (h : b.length = n) : 0 + n ≤ (b.map tB).length := by simp [h]

theorem lend3 (l : List Int) : 0 + (l.map tI).length ≤ (l.map tI).length := by simp

theorem flat_bools {e sz : Nat} {b : List Bool} : (Ob.row e sz (b.map tB)).flat := by
  intro el hel x hx
  obtain ⟨y, _, rfl⟩ := List.mem_map.1 hel
  simp [tB] at hx; subst hx; trivial
theorem flat_ints {e sz : Nat} {b : List Int} : (Ob.row e sz (b.map tI)).flat := by
  intro el hel x hx
  obtain ⟨y, _, rfl⟩ := List.mem_map.1 hel
  simp [tI] at hx; subst hx; trivial
theorem flat_lits {e sz : Nat} {b : List Lit} : (Ob.row e sz (b.map tLit)).flat := by
  intro el hel x hx
  obtain ⟨y, _, rfl⟩ := List.mem_map.1 hel
  simp [tLit] at hx; rcases hx with rfl | rfl <;> trivial

theorem SpecP.conv {P : Program} {f : Nat} {args args' : List LV} {out : List Fr} {Post : LV → Fr → Prop} (hxy : ∀ (β : K → Nat) (RO : Nat → Prop) (w : World) (vals : List Value), Vals β RO w args vals → Vals β RO w args' vals) (h : SpecP P f args' out Post) : SpecP P f args out Post :=
  ⟨h.fn, fun β RO w vals hw hv => h.calls β RO w vals hw (hxy β RO w vals hv)⟩


end Go.Fw
