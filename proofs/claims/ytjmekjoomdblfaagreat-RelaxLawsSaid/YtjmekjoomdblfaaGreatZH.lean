/- What is told of the program; tasks and states of the reference. -/
import Derived.Test.YtjmekjoomdblfaaGreatProg
import Derived.Test.YtjmekjoomdblfaaGreatZD
import Derived.KernelRfl
import Derived.Shelf.Sort.AssemblyIn
import Derived.Shelf.Slices.In.SortNone
import Derived.Sort.EveryDepth
import Derived.Test.YtjmekjoomdblfaaGreatZF

/- Printed by wip/tys.py: what the value logic is told of the types. -/
namespace Go.Fw
open Go Go.Proofs

def tys : List (Nat × TI) := [
  (3, ⟨.int .i64, 1, 8, [.int .i64 (0)]⟩),
  (23, ⟨.slice 3, 1, 24, [.slice none 0 0]⟩),
  (27, ⟨.struct [(0, 22), (1, 23), (2, 24), (3, 25)], 4, 96, [.slice none 0 0, .slice none 0 0, .slice none 0 0, .slice none 0 0]⟩),
  (4, ⟨.bool, 1, 1, [.bool false]⟩),
  (52, ⟨.struct [(0, 3), (1, 4)], 2, 16, [.int .i64 (0), .bool false]⟩),
  (45, ⟨.struct [(0, 9), (1, 3), (2, 24), (3, 43)], 4, 72, [.string ⟨#[]⟩, .int .i64 (0), .slice none 0 0, .slice none 0 0]⟩),
  (54, ⟨.struct [(0, 24), (1, 52)], 3, 40, [.slice none 0 0, .int .i64 (0), .bool false]⟩),
  (24, ⟨.slice 52, 1, 24, [.slice none 0 0]⟩),
  (62, ⟨.struct [(0, 23), (1, 23), (2, 23)], 3, 72, [.slice none 0 0, .slice none 0 0, .slice none 0 0]⟩),
  (25, ⟨.slice 45, 1, 24, [.slice none 0 0]⟩),
  (40, ⟨.struct [(0, 38), (1, 3), (2, 4)], 3, 40, [.slice none 0 0, .int .i64 (0), .bool false]⟩),
  (88, ⟨.struct [(0, 3), (1, 3)], 2, 16, [.int .i64 (0), .int .i64 (0)]⟩),
  (29, ⟨.int .i64, 1, 8, [.int .i64 (0)]⟩),
  (22, ⟨.slice 9, 1, 24, [.slice none 0 0]⟩),
  (66, ⟨.slice 71, 1, 24, [.slice none 0 0]⟩),
  (9, ⟨.str, 1, 16, [.string ⟨#[]⟩]⟩),
  (81, ⟨.slice 88, 1, 24, [.slice none 0 0]⟩),
  (138, ⟨.int .u64, 1, 8, [.int .u64 (0)]⟩),
  (71, ⟨.struct [(0, 3), (1, 3), (2, 23)], 3, 40, [.int .i64 (0), .int .i64 (0), .slice none 0 0]⟩),
  (43, ⟨.slice 54, 1, 24, [.slice none 0 0]⟩),
  (68, ⟨.slice 4, 1, 24, [.slice none 0 0]⟩),
  (5, ⟨.int .u8, 1, 1, [.int .u8 (0)]⟩),
  (38, ⟨.slice 23, 1, 24, [.slice none 0 0]⟩),
  (85, ⟨.struct [(0, 83)], 1, 16, [.nilIface]⟩),
  (103, ⟨.map 9 4, 1, 8, [.map none]⟩),
  (108, ⟨.int .u64, 1, 8, [.int .u64 (0)]⟩),
  (123, ⟨.map 3 4, 1, 8, [.map none]⟩),
  (137, ⟨.int .u64, 1, 8, [.int .u64 (0)]⟩),
  (135, ⟨.int .u32, 1, 4, [.int .u32 (0)]⟩),
  (69, ⟨.other, 1, 8, [.nilFunc]⟩),
  (89, ⟨.other, 1, 8, [.nilFunc]⟩),
  (83, ⟨.other, 1, 16, [.nilIface]⟩),
  (128, ⟨.int .i64, 1, 8, [.int .i64 (0)]⟩),
  (79, ⟨.ptr 81, 1, 8, [.pointer none]⟩),
  (1, ⟨.other, 1, 8, [.nilFunc]⟩),
  (2, ⟨.int .i64, 1, 8, [.int .i64 (0)]⟩),
  (6, ⟨.int .u8, 1, 1, [.int .u8 (0)]⟩),
  (7, ⟨.struct [(0, 2), (1, 3), (2, 4), (3, 6)], 4, 24, [.int .i64 (0), .int .i64 (0), .bool false, .int .u8 (0)]⟩),
  (8, ⟨.struct [(0, 2), (1, 3), (2, 4), (3, 6)], 4, 24, [.int .i64 (0), .int .i64 (0), .bool false, .int .u8 (0)]⟩),
  (10, ⟨.str, 1, 16, [.string ⟨#[]⟩]⟩),
  (11, ⟨.str, 1, 16, [.string ⟨#[]⟩]⟩),
  (12, ⟨.int .u64, 1, 8, [.int .u64 (0)]⟩),
  (13, ⟨.struct [(0, 9), (1, 12)], 2, 24, [.string ⟨#[]⟩, .int .u64 (0)]⟩),
  (14, ⟨.struct [(0, 9), (1, 12)], 2, 24, [.string ⟨#[]⟩, .int .u64 (0)]⟩),
  (15, ⟨.ptr 149, 1, 8, [.pointer none]⟩),
  (16, ⟨.ptr 152, 1, 8, [.pointer none]⟩),
  (17, ⟨.ptr 160, 1, 8, [.pointer none]⟩),
  (18, ⟨.struct [(0, 17)], 1, 8, [.pointer none]⟩),
  (19, ⟨.struct [(0, 17)], 1, 8, [.pointer none]⟩),
  (20, ⟨.other, 1, 16, [.nilIface]⟩),
  (21, ⟨.int .i32, 1, 4, [.int .i32 (0)]⟩),
  (26, ⟨.struct [(0, 22), (1, 23), (2, 24), (3, 25)], 4, 96, [.slice none 0 0, .slice none 0 0, .slice none 0 0, .slice none 0 0]⟩),
  (28, ⟨.other, 1, 8, [.nilFunc]⟩),
  (30, ⟨.other, 1, 8, [.nilFunc]⟩),
  (31, ⟨.other, 1, 8, [.nilFunc]⟩),
  (33, ⟨.other, 1, 8, [.nilFunc]⟩),
  (35, ⟨.other, 1, 8, [.nilFunc]⟩),
  (36, ⟨.other, 1, 8, [.nilFunc]⟩),
  (37, ⟨.other, 1, 8, [.nilFunc]⟩),
  (39, ⟨.struct [(0, 38), (1, 3), (2, 4)], 3, 40, [.slice none 0 0, .int .i64 (0), .bool false]⟩),
  (42, ⟨.other, 1, 8, [.nilFunc]⟩),
  (44, ⟨.struct [(0, 9), (1, 3), (2, 24), (3, 43)], 4, 72, [.string ⟨#[]⟩, .int .i64 (0), .slice none 0 0, .slice none 0 0]⟩),
  (46, ⟨.other, 1, 8, [.nilFunc]⟩),
  (47, ⟨.other, 1, 8, [.nilFunc]⟩),
  (48, ⟨.other, 1, 8, [.nilFunc]⟩),
  (49, ⟨.other, 1, 8, [.nilFunc]⟩),
  (50, ⟨.other, 1, 8, [.nilFunc]⟩),
  (51, ⟨.struct [(0, 3), (1, 4)], 2, 16, [.int .i64 (0), .bool false]⟩),
  (53, ⟨.struct [(0, 24), (1, 52)], 3, 40, [.slice none 0 0, .int .i64 (0), .bool false]⟩),
  (56, ⟨.other, 1, 8, [.nilFunc]⟩),
  (58, ⟨.other, 1, 8, [.nilFunc]⟩),
  (60, ⟨.other, 1, 8, [.nilFunc]⟩),
  (61, ⟨.struct [(0, 23), (1, 23), (2, 23)], 3, 72, [.slice none 0 0, .slice none 0 0, .slice none 0 0]⟩),
  (63, ⟨.other, 1, 8, [.nilFunc]⟩),
  (64, ⟨.other, 1, 8, [.nilFunc]⟩),
  (65, ⟨.other, 1, 8, [.nilFunc]⟩),
  (67, ⟨.other, 1, 8, [.nilFunc]⟩),
  (70, ⟨.struct [(0, 3), (1, 3), (2, 23)], 3, 40, [.int .i64 (0), .int .i64 (0), .slice none 0 0]⟩),
  (72, ⟨.other, 1, 8, [.nilFunc]⟩),
  (73, ⟨.other, 1, 8, [.nilFunc]⟩),
  (74, ⟨.other, 1, 8, [.nilFunc]⟩),
  (76, ⟨.other, 1, 8, [.nilFunc]⟩),
  (77, ⟨.other, 1, 8, [.nilFunc]⟩),
  (78, ⟨.other, 1, 8, [.nilFunc]⟩),
  (80, ⟨.slice 88, 1, 24, [.slice none 0 0]⟩),
  (82, ⟨.other, 1, 16, [.nilIface]⟩),
  (84, ⟨.struct [(0, 83)], 1, 16, [.nilIface]⟩),
  (86, ⟨.other, 1, 8, [.nilFunc]⟩),
  (87, ⟨.struct [(0, 3), (1, 3)], 2, 16, [.int .i64 (0), .int .i64 (0)]⟩),
  (90, ⟨.other, 1, 8, [.nilFunc]⟩),
  (91, ⟨.other, 1, 8, [.nilFunc]⟩),
  (92, ⟨.other, 1, 8, [.nilFunc]⟩),
  (93, ⟨.other, 1, 8, [.nilFunc]⟩),
  (94, ⟨.other, 1, 8, [.nilFunc]⟩),
  (95, ⟨.other, 1, 8, [.nilFunc]⟩),
  (96, ⟨.other, 1, 8, [.nilFunc]⟩),
  (97, ⟨.other, 1, 8, [.nilFunc]⟩),
  (98, ⟨.other, 1, 8, [.nilFunc]⟩),
  (99, ⟨.other, 1, 8, [.nilFunc]⟩),
  (100, ⟨.other, 1, 8, [.nilFunc]⟩),
  (101, ⟨.other, 1, 8, [.nilFunc]⟩),
  (102, ⟨.other, 1, 8, [.nilFunc]⟩),
  (104, ⟨.other, 1, 8, [.nilFunc]⟩),
  (105, ⟨.other, 1, 8, [.nilFunc]⟩),
  (106, ⟨.other, 1, 8, [.nilFunc]⟩),
  (107, ⟨.other, 1, 8, [.nilFunc]⟩),
  (109, ⟨.other, 1, 8, [.nilFunc]⟩),
  (110, ⟨.other, 1, 8, [.nilFunc]⟩),
  (111, ⟨.other, 1, 8, [.nilFunc]⟩),
  (112, ⟨.other, 1, 8, [.nilFunc]⟩),
  (113, ⟨.other, 1, 8, [.nilFunc]⟩),
  (114, ⟨.other, 1, 8, [.nilFunc]⟩),
  (115, ⟨.other, 1, 8, [.nilFunc]⟩),
  (116, ⟨.other, 1, 8, [.nilFunc]⟩),
  (117, ⟨.other, 1, 8, [.nilFunc]⟩),
  (118, ⟨.other, 1, 8, [.nilFunc]⟩),
  (119, ⟨.other, 1, 8, [.nilFunc]⟩),
  (120, ⟨.other, 1, 8, [.nilFunc]⟩),
  (121, ⟨.other, 1, 8, [.nilFunc]⟩),
  (122, ⟨.other, 1, 8, [.nilFunc]⟩),
  (124, ⟨.other, 1, 8, [.nilFunc]⟩),
  (125, ⟨.other, 1, 8, [.nilFunc]⟩),
  (126, ⟨.other, 1, 8, [.nilFunc]⟩),
  (127, ⟨.other, 1, 8, [.nilFunc]⟩),
  (130, ⟨.other, 1, 8, [.nilFunc]⟩),
  (131, ⟨.other, 1, 8, [.nilFunc]⟩),
  (132, ⟨.other, 1, 8, [.nilFunc]⟩),
  (133, ⟨.other, 1, 8, [.nilFunc]⟩),
  (134, ⟨.other, 1, 8, [.nilFunc]⟩),
  (136, ⟨.other, 1, 8, [.nilFunc]⟩),
  (139, ⟨.other, 1, 8, [.nilFunc]⟩),
  (140, ⟨.other, 1, 8, [.nilFunc]⟩),
  (141, ⟨.other, 1, 8, [.nilFunc]⟩),
  (142, ⟨.ptr 3, 1, 8, [.pointer none]⟩),
  (143, ⟨.other, 1, 8, [.nilFunc]⟩),
  (144, ⟨.ptr 138, 1, 8, [.pointer none]⟩),
  (146, ⟨.other, 1, 8, [.nilFunc]⟩),
  (147, ⟨.other, 1, 8, [.nilFunc]⟩),
  (148, ⟨.struct [(0, 17), (1, 17), (2, 17), (3, 9)], 4, 40, [.pointer none, .pointer none, .pointer none, .string ⟨#[]⟩]⟩),
  (149, ⟨.struct [(0, 17), (1, 17), (2, 17), (3, 9)], 4, 40, [.pointer none, .pointer none, .pointer none, .string ⟨#[]⟩]⟩),
  (150, ⟨.arr 0 16, 0, 0, []⟩),
  (151, ⟨.struct [(0, 150)], 0, 0, []⟩),
  (152, ⟨.struct [(0, 150)], 0, 0, []⟩),
  (153, ⟨.int .u8, 1, 1, [.int .u8 (0)]⟩),
  (154, ⟨.int .u8, 1, 1, [.int .u8 (0)]⟩),
  (155, ⟨.other, 1, 8, [.nilFunc]⟩),
  (156, ⟨.ptr 5, 1, 8, [.pointer none]⟩),
  (157, ⟨.int .i32, 1, 4, [.int .i32 (0)]⟩),
  (158, ⟨.int .i32, 1, 4, [.int .i32 (0)]⟩),
  (159, ⟨.struct [(0, 12), (1, 12), (2, 135), (3, 153), (4, 5), (5, 5), (6, 154), (7, 155), (8, 156), (9, 157), (10, 158)], 11, 48, [.int .u64 (0), .int .u64 (0), .int .u32 (0), .int .u8 (0), .int .u8 (0), .int .u8 (0), .int .u8 (0), .nilFunc, .pointer none, .int .i32 (0), .int .i32 (0)]⟩),
  (160, ⟨.struct [(0, 12), (1, 12), (2, 135), (3, 153), (4, 5), (5, 5), (6, 154), (7, 155), (8, 156), (9, 157), (10, 158)], 11, 48, [.int .u64 (0), .int .u64 (0), .int .u32 (0), .int .u8 (0), .int .u8 (0), .int .u8 (0), .int .u8 (0), .nilFunc, .pointer none, .int .i32 (0), .int .i32 (0)]⟩),
  (161, ⟨.other, 1, 8, [.pointer none]⟩)]

theorem tys_ok : TysOK Tryz.prog tys := ⟨
  ⟨by kernel_rfl, by kernel_rfl, by kernel_rfl, by kernel_rfl⟩,
  ⟨by kernel_rfl, by kernel_rfl, by kernel_rfl, by kernel_rfl⟩,
  ⟨by kernel_rfl, by kernel_rfl, by kernel_rfl, by kernel_rfl⟩,
  ⟨by kernel_rfl, by kernel_rfl, by kernel_rfl, by kernel_rfl⟩,
  ⟨by kernel_rfl, by kernel_rfl, by kernel_rfl, by kernel_rfl⟩,
  ⟨by kernel_rfl, by kernel_rfl, by kernel_rfl, by kernel_rfl⟩,
  ⟨by kernel_rfl, by kernel_rfl, by kernel_rfl, by kernel_rfl⟩,
  ⟨by kernel_rfl, by kernel_rfl, by kernel_rfl, by kernel_rfl⟩,
  ⟨by kernel_rfl, by kernel_rfl, by kernel_rfl, by kernel_rfl⟩,
  ⟨by kernel_rfl, by kernel_rfl, by kernel_rfl, by kernel_rfl⟩,
  ⟨by kernel_rfl, by kernel_rfl, by kernel_rfl, by kernel_rfl⟩,
  ⟨by kernel_rfl, by kernel_rfl, by kernel_rfl, by kernel_rfl⟩,
  ⟨by kernel_rfl, by kernel_rfl, by kernel_rfl, by kernel_rfl⟩,
  ⟨by kernel_rfl, by kernel_rfl, by kernel_rfl, by kernel_rfl⟩,
  ⟨by kernel_rfl, by kernel_rfl, by kernel_rfl, by kernel_rfl⟩,
  ⟨by kernel_rfl, by kernel_rfl, by kernel_rfl, by kernel_rfl⟩,
  ⟨by kernel_rfl, by kernel_rfl, by kernel_rfl, by kernel_rfl⟩,
  ⟨by kernel_rfl, by kernel_rfl, by kernel_rfl, by kernel_rfl⟩,
  ⟨by kernel_rfl, by kernel_rfl, by kernel_rfl, by kernel_rfl⟩,
  ⟨by kernel_rfl, by kernel_rfl, by kernel_rfl, by kernel_rfl⟩,
  ⟨by kernel_rfl, by kernel_rfl, by kernel_rfl, by kernel_rfl⟩,
  ⟨by kernel_rfl, by kernel_rfl, by kernel_rfl, by kernel_rfl⟩,
  ⟨by kernel_rfl, by kernel_rfl, by kernel_rfl, by kernel_rfl⟩,
  ⟨by kernel_rfl, by kernel_rfl, by kernel_rfl, by kernel_rfl⟩,
  ⟨by kernel_rfl, by kernel_rfl, by kernel_rfl, by kernel_rfl⟩,
  ⟨by kernel_rfl, by kernel_rfl, by kernel_rfl, by kernel_rfl⟩,
  ⟨by kernel_rfl, by kernel_rfl, by kernel_rfl, by kernel_rfl⟩,
  ⟨by kernel_rfl, by kernel_rfl, by kernel_rfl, by kernel_rfl⟩,
  ⟨by kernel_rfl, by kernel_rfl, by kernel_rfl, by kernel_rfl⟩,
  ⟨by kernel_rfl, by kernel_rfl, by kernel_rfl, by kernel_rfl⟩,
  ⟨by kernel_rfl, by kernel_rfl, by kernel_rfl, by kernel_rfl⟩,
  ⟨by kernel_rfl, by kernel_rfl, by kernel_rfl, by kernel_rfl⟩,
  ⟨by kernel_rfl, by kernel_rfl, by kernel_rfl, by kernel_rfl⟩,
  ⟨by kernel_rfl, by kernel_rfl, by kernel_rfl, by kernel_rfl⟩,
  ⟨by kernel_rfl, by kernel_rfl, by kernel_rfl, by kernel_rfl⟩,
  ⟨by kernel_rfl, by kernel_rfl, by kernel_rfl, by kernel_rfl⟩,
  ⟨by kernel_rfl, by kernel_rfl, by kernel_rfl, by kernel_rfl⟩,
  ⟨by kernel_rfl, by kernel_rfl, by kernel_rfl, by kernel_rfl⟩,
  ⟨by kernel_rfl, by kernel_rfl, by kernel_rfl, by kernel_rfl⟩,
  ⟨by kernel_rfl, by kernel_rfl, by kernel_rfl, by kernel_rfl⟩,
  ⟨by kernel_rfl, by kernel_rfl, by kernel_rfl, by kernel_rfl⟩,
  ⟨by kernel_rfl, by kernel_rfl, by kernel_rfl, by kernel_rfl⟩,
  ⟨by kernel_rfl, by kernel_rfl, by kernel_rfl, by kernel_rfl⟩,
  ⟨by kernel_rfl, by kernel_rfl, by kernel_rfl, by kernel_rfl⟩,
  ⟨by kernel_rfl, by kernel_rfl, by kernel_rfl, by kernel_rfl⟩,
  ⟨by kernel_rfl, by kernel_rfl, by kernel_rfl, by kernel_rfl⟩,
  ⟨by kernel_rfl, by kernel_rfl, by kernel_rfl, by kernel_rfl⟩,
  ⟨by kernel_rfl, by kernel_rfl, by kernel_rfl, by kernel_rfl⟩,
  ⟨by kernel_rfl, by kernel_rfl, by kernel_rfl, by kernel_rfl⟩,
  ⟨by kernel_rfl, by kernel_rfl, by kernel_rfl, by kernel_rfl⟩,
  ⟨by kernel_rfl, by kernel_rfl, by kernel_rfl, by kernel_rfl⟩,
  ⟨by kernel_rfl, by kernel_rfl, by kernel_rfl, by kernel_rfl⟩,
  ⟨by kernel_rfl, by kernel_rfl, by kernel_rfl, by kernel_rfl⟩,
  ⟨by kernel_rfl, by kernel_rfl, by kernel_rfl, by kernel_rfl⟩,
  ⟨by kernel_rfl, by kernel_rfl, by kernel_rfl, by kernel_rfl⟩,
  ⟨by kernel_rfl, by kernel_rfl, by kernel_rfl, by kernel_rfl⟩,
  ⟨by kernel_rfl, by kernel_rfl, by kernel_rfl, by kernel_rfl⟩,
  ⟨by kernel_rfl, by kernel_rfl, by kernel_rfl, by kernel_rfl⟩,
  ⟨by kernel_rfl, by kernel_rfl, by kernel_rfl, by kernel_rfl⟩,
  ⟨by kernel_rfl, by kernel_rfl, by kernel_rfl, by kernel_rfl⟩,
  ⟨by kernel_rfl, by kernel_rfl, by kernel_rfl, by kernel_rfl⟩,
  ⟨by kernel_rfl, by kernel_rfl, by kernel_rfl, by kernel_rfl⟩,
  ⟨by kernel_rfl, by kernel_rfl, by kernel_rfl, by kernel_rfl⟩,
  ⟨by kernel_rfl, by kernel_rfl, by kernel_rfl, by kernel_rfl⟩,
  ⟨by kernel_rfl, by kernel_rfl, by kernel_rfl, by kernel_rfl⟩,
  ⟨by kernel_rfl, by kernel_rfl, by kernel_rfl, by kernel_rfl⟩,
  ⟨by kernel_rfl, by kernel_rfl, by kernel_rfl, by kernel_rfl⟩,
  ⟨by kernel_rfl, by kernel_rfl, by kernel_rfl, by kernel_rfl⟩,
  ⟨by kernel_rfl, by kernel_rfl, by kernel_rfl, by kernel_rfl⟩,
  ⟨by kernel_rfl, by kernel_rfl, by kernel_rfl, by kernel_rfl⟩,
  ⟨by kernel_rfl, by kernel_rfl, by kernel_rfl, by kernel_rfl⟩,
  ⟨by kernel_rfl, by kernel_rfl, by kernel_rfl, by kernel_rfl⟩,
  ⟨by kernel_rfl, by kernel_rfl, by kernel_rfl, by kernel_rfl⟩,
  ⟨by kernel_rfl, by kernel_rfl, by kernel_rfl, by kernel_rfl⟩,
  ⟨by kernel_rfl, by kernel_rfl, by kernel_rfl, by kernel_rfl⟩,
  ⟨by kernel_rfl, by kernel_rfl, by kernel_rfl, by kernel_rfl⟩,
  ⟨by kernel_rfl, by kernel_rfl, by kernel_rfl, by kernel_rfl⟩,
  ⟨by kernel_rfl, by kernel_rfl, by kernel_rfl, by kernel_rfl⟩,
  ⟨by kernel_rfl, by kernel_rfl, by kernel_rfl, by kernel_rfl⟩,
  ⟨by kernel_rfl, by kernel_rfl, by kernel_rfl, by kernel_rfl⟩,
  ⟨by kernel_rfl, by kernel_rfl, by kernel_rfl, by kernel_rfl⟩,
  ⟨by kernel_rfl, by kernel_rfl, by kernel_rfl, by kernel_rfl⟩,
  ⟨by kernel_rfl, by kernel_rfl, by kernel_rfl, by kernel_rfl⟩,
  ⟨by kernel_rfl, by kernel_rfl, by kernel_rfl, by kernel_rfl⟩,
  ⟨by kernel_rfl, by kernel_rfl, by kernel_rfl, by kernel_rfl⟩,
  ⟨by kernel_rfl, by kernel_rfl, by kernel_rfl, by kernel_rfl⟩,
  ⟨by kernel_rfl, by kernel_rfl, by kernel_rfl, by kernel_rfl⟩,
  ⟨by kernel_rfl, by kernel_rfl, by kernel_rfl, by kernel_rfl⟩,
  ⟨by kernel_rfl, by kernel_rfl, by kernel_rfl, by kernel_rfl⟩,
  ⟨by kernel_rfl, by kernel_rfl, by kernel_rfl, by kernel_rfl⟩,
  ⟨by kernel_rfl, by kernel_rfl, by kernel_rfl, by kernel_rfl⟩,
  ⟨by kernel_rfl, by kernel_rfl, by kernel_rfl, by kernel_rfl⟩,
  ⟨by kernel_rfl, by kernel_rfl, by kernel_rfl, by kernel_rfl⟩,
  ⟨by kernel_rfl, by kernel_rfl, by kernel_rfl, by kernel_rfl⟩,
  ⟨by kernel_rfl, by kernel_rfl, by kernel_rfl, by kernel_rfl⟩,
  ⟨by kernel_rfl, by kernel_rfl, by kernel_rfl, by kernel_rfl⟩,
  ⟨by kernel_rfl, by kernel_rfl, by kernel_rfl, by kernel_rfl⟩,
  ⟨by kernel_rfl, by kernel_rfl, by kernel_rfl, by kernel_rfl⟩,
  ⟨by kernel_rfl, by kernel_rfl, by kernel_rfl, by kernel_rfl⟩,
  ⟨by kernel_rfl, by kernel_rfl, by kernel_rfl, by kernel_rfl⟩,
  ⟨by kernel_rfl, by kernel_rfl, by kernel_rfl, by kernel_rfl⟩,
  ⟨by kernel_rfl, by kernel_rfl, by kernel_rfl, by kernel_rfl⟩,
  ⟨by kernel_rfl, by kernel_rfl, by kernel_rfl, by kernel_rfl⟩,
  ⟨by kernel_rfl, by kernel_rfl, by kernel_rfl, by kernel_rfl⟩,
  ⟨by kernel_rfl, by kernel_rfl, by kernel_rfl, by kernel_rfl⟩,
  ⟨by kernel_rfl, by kernel_rfl, by kernel_rfl, by kernel_rfl⟩,
  ⟨by kernel_rfl, by kernel_rfl, by kernel_rfl, by kernel_rfl⟩,
  ⟨by kernel_rfl, by kernel_rfl, by kernel_rfl, by kernel_rfl⟩,
  ⟨by kernel_rfl, by kernel_rfl, by kernel_rfl, by kernel_rfl⟩,
  ⟨by kernel_rfl, by kernel_rfl, by kernel_rfl, by kernel_rfl⟩,
  ⟨by kernel_rfl, by kernel_rfl, by kernel_rfl, by kernel_rfl⟩,
  ⟨by kernel_rfl, by kernel_rfl, by kernel_rfl, by kernel_rfl⟩,
  ⟨by kernel_rfl, by kernel_rfl, by kernel_rfl, by kernel_rfl⟩,
  ⟨by kernel_rfl, by kernel_rfl, by kernel_rfl, by kernel_rfl⟩,
  ⟨by kernel_rfl, by kernel_rfl, by kernel_rfl, by kernel_rfl⟩,
  ⟨by kernel_rfl, by kernel_rfl, by kernel_rfl, by kernel_rfl⟩,
  ⟨by kernel_rfl, by kernel_rfl, by kernel_rfl, by kernel_rfl⟩,
  ⟨by kernel_rfl, by kernel_rfl, by kernel_rfl, by kernel_rfl⟩,
  ⟨by kernel_rfl, by kernel_rfl, by kernel_rfl, by kernel_rfl⟩,
  ⟨by kernel_rfl, by kernel_rfl, by kernel_rfl, by kernel_rfl⟩,
  ⟨by kernel_rfl, by kernel_rfl, by kernel_rfl, by kernel_rfl⟩,
  ⟨by kernel_rfl, by kernel_rfl, by kernel_rfl, by kernel_rfl⟩,
  ⟨by kernel_rfl, by kernel_rfl, by kernel_rfl, by kernel_rfl⟩,
  ⟨by kernel_rfl, by kernel_rfl, by kernel_rfl, by kernel_rfl⟩,
  ⟨by kernel_rfl, by kernel_rfl, by kernel_rfl, by kernel_rfl⟩,
  ⟨by kernel_rfl, by kernel_rfl, by kernel_rfl, by kernel_rfl⟩,
  ⟨by kernel_rfl, by kernel_rfl, by kernel_rfl, by kernel_rfl⟩,
  ⟨by kernel_rfl, by kernel_rfl, by kernel_rfl, by kernel_rfl⟩,
  ⟨by kernel_rfl, by kernel_rfl, by kernel_rfl, by kernel_rfl⟩,
  ⟨by kernel_rfl, by kernel_rfl, by kernel_rfl, by kernel_rfl⟩,
  ⟨by kernel_rfl, by kernel_rfl, by kernel_rfl, by kernel_rfl⟩,
  ⟨by kernel_rfl, by kernel_rfl, by kernel_rfl, by kernel_rfl⟩,
  ⟨by kernel_rfl, by kernel_rfl, by kernel_rfl, by kernel_rfl⟩,
  ⟨by kernel_rfl, by kernel_rfl, by kernel_rfl, by kernel_rfl⟩,
  ⟨by kernel_rfl, by kernel_rfl, by kernel_rfl, by kernel_rfl⟩,
  ⟨by kernel_rfl, by kernel_rfl, by kernel_rfl, by kernel_rfl⟩,
  ⟨by kernel_rfl, by kernel_rfl, by kernel_rfl, by kernel_rfl⟩,
  ⟨by kernel_rfl, by kernel_rfl, by kernel_rfl, by kernel_rfl⟩,
  ⟨by kernel_rfl, by kernel_rfl, by kernel_rfl, by kernel_rfl⟩,
  ⟨by kernel_rfl, by kernel_rfl, by kernel_rfl, by kernel_rfl⟩,
  ⟨by kernel_rfl, by kernel_rfl, by kernel_rfl, by kernel_rfl⟩,
  ⟨by kernel_rfl, by kernel_rfl, by kernel_rfl, by kernel_rfl⟩,
  ⟨by kernel_rfl, by kernel_rfl, by kernel_rfl, by kernel_rfl⟩,
  ⟨by kernel_rfl, by kernel_rfl, by kernel_rfl, by kernel_rfl⟩,
  ⟨by kernel_rfl, by kernel_rfl, by kernel_rfl, by kernel_rfl⟩,
  ⟨by kernel_rfl, by kernel_rfl, by kernel_rfl, by kernel_rfl⟩,
  ⟨by kernel_rfl, by kernel_rfl, by kernel_rfl, by kernel_rfl⟩,
  ⟨by kernel_rfl, by kernel_rfl, by kernel_rfl, by kernel_rfl⟩,
  ⟨by kernel_rfl, by kernel_rfl, by kernel_rfl, by kernel_rfl⟩,
  ⟨by kernel_rfl, by kernel_rfl, by kernel_rfl, by kernel_rfl⟩,
  ⟨by kernel_rfl, by kernel_rfl, by kernel_rfl, by kernel_rfl⟩,
  ⟨by kernel_rfl, by kernel_rfl, by kernel_rfl, by kernel_rfl⟩,
  trivial⟩

end Go.Fw

/- slices.Sort sorts a row of numbers where it lies. -/
namespace Go.Proofs
open Go Go.Shelf Go.Sort Go.RowKit
def Tryz.laysSort_ren : Go.Shelf.Ren := ⟨fun | 189 => 78 | 125 => 81 | 257 => 80 | 128 => 91 | 129 => 92 | 294 => 83 | 295 => 84 | 296 => 85 | 297 => 86 | 298 => 87 | 299 => 88 | 216 => 58 | 300 => 89 | 301 => 90 | 328 => 93 | 329 => 94 | 330 => 95 | 331 => 96 | 332 => 97 | 215 => 74 | 343 => 98 | n => n, fun | 28 => 23 | 3 => 3 | 46 => 108 | 0 => 0 | 51 => 135 | 53 => 137 | 4 => 4 | 183 => 129 | 182 => 128 | 131 => 59 | 5 => 5 | 9 => 9 | 218 => 138 | 222 => 142 | 228 => 144 | 229 => 145 | n => n, fun | n => n⟩
theorem Tryz.laysSort : Go.Proofs.Lays.n189 Tryz.prog Tryz.laysSort_ren where
  mixed := by kernel_rfl
  f125 := Tryz.func81.trans (congrArg some (by kernel_rfl))
  f128 := Tryz.func91.trans (congrArg some (by kernel_rfl))
  f129 := Tryz.func92.trans (congrArg some (by kernel_rfl))
  f189 := Tryz.func78.trans (congrArg some (by kernel_rfl))
  f215 := Tryz.func74.trans (congrArg some (by kernel_rfl))
  f216 := Tryz.func58.trans (congrArg some (by kernel_rfl))
  f257 := Tryz.func80.trans (congrArg some (by kernel_rfl))
  f294 := Tryz.func83.trans (congrArg some (by kernel_rfl))
  f295 := Tryz.func84.trans (congrArg some (by kernel_rfl))
  f296 := Tryz.func85.trans (congrArg some (by kernel_rfl))
  f297 := Tryz.func86.trans (congrArg some (by kernel_rfl))
  f298 := Tryz.func87.trans (congrArg some (by kernel_rfl))
  f299 := Tryz.func88.trans (congrArg some (by kernel_rfl))
  f300 := Tryz.func89.trans (congrArg some (by kernel_rfl))
  f301 := Tryz.func90.trans (congrArg some (by kernel_rfl))
  f328 := Tryz.func93.trans (congrArg some (by kernel_rfl))
  f329 := Tryz.func94.trans (congrArg some (by kernel_rfl))
  f330 := Tryz.func95.trans (congrArg some (by kernel_rfl))
  f331 := Tryz.func96.trans (congrArg some (by kernel_rfl))
  f332 := Tryz.func97.trans (congrArg some (by kernel_rfl))
  f343 := Tryz.func98.trans (congrArg some (by kernel_rfl))
  t0 := Tryz.underlying0
  a0 := Tryz.isAgg0
  z0 := Tryz.sizeOf0
  v0 := Tryz.zeroValue0
  t3 := Tryz.underlying3
  a3 := Tryz.isAgg3
  z3 := Tryz.sizeOf3
  v3 := Tryz.zeroValue3
  t4 := Tryz.underlying4
  a4 := Tryz.isAgg4
  z4 := Tryz.sizeOf4
  v4 := Tryz.zeroValue4
  t5 := Tryz.underlying5
  a5 := Tryz.isAgg5
  z5 := Tryz.sizeOf5
  v5 := Tryz.zeroValue5
  t9 := Tryz.underlying9
  a9 := Tryz.isAgg9
  z9 := Tryz.sizeOf9
  v9 := Tryz.zeroValue9
  t28 := Tryz.underlying23
  a28 := Tryz.isAgg23
  z28 := Tryz.sizeOf23
  v28 := Tryz.zeroValue23
  t46 := Tryz.underlying108
  a46 := Tryz.isAgg108
  z46 := Tryz.sizeOf108
  v46 := Tryz.zeroValue108
  t51 := Tryz.underlying135
  a51 := Tryz.isAgg135
  z51 := Tryz.sizeOf135
  v51 := Tryz.zeroValue135
  t53 := Tryz.underlying137
  a53 := Tryz.isAgg137
  z53 := Tryz.sizeOf137
  v53 := Tryz.zeroValue137
  t131 := Tryz.underlying59
  a131 := Tryz.isAgg59
  z131 := Tryz.sizeOf59
  v131 := Tryz.zeroValue59
  t182 := Tryz.underlying128
  a182 := Tryz.isAgg128
  z182 := Tryz.sizeOf128
  v182 := Tryz.zeroValue128
  t183 := Tryz.underlying129
  a183 := Tryz.isAgg129
  z183 := Tryz.sizeOf129
  v183 := Tryz.zeroValue129
  t218 := Tryz.underlying138
  a218 := Tryz.isAgg138
  z218 := Tryz.sizeOf138
  v218 := Tryz.zeroValue138
  t222 := Tryz.underlying142
  a222 := Tryz.isAgg142
  z222 := Tryz.sizeOf142
  v222 := Tryz.zeroValue142
  t228 := Tryz.underlying144
  a228 := Tryz.isAgg144
  z228 := Tryz.sizeOf144
  v228 := Tryz.zeroValue144
  t229 := Tryz.underlying145
  a229 := Tryz.isAgg145
  z229 := Tryz.sizeOf145
  v229 := Tryz.zeroValue145

theorem try_sort : Fw.SortOK Tryz.prog 78 := by
  refine ⟨by kernel_rfl, fun w => ?_, fun w g cap ty zs cur hg hc hl => ?_⟩
  · refine (calls_of_every_depth fun D => AnyS.slices_Sort_int_none_in Tryz.laysSort D none 0 w).mono ?_
    rintro e w' ⟨rfl, rfl⟩
    exact ⟨rfl, rfl, rfl, rfl, Nat.le_refl _, fun _ _ => rfl⟩
  · have hlen : zs.length ≤ cur.size := by
      have := congrArg List.length hc
      simp at this; omega
    have hget : ∀ j, j < zs.length → cur[j]? = some (.int .i64 zs[j]!) := fun j hj => by
      have h1 : (cur.toList.take zs.length)[j]? = (zs.map (Value.int .i64))[j]? := by rw [hc]
      rw [List.getElem?_take, if_pos hj, List.getElem?_map] at h1
      simpa [hj] using h1
    have hH : Holds (Value.int .i64) w g 0 zs.toArray := by
      intro j hj
      have hj : j < zs.length := by simpa using hj
      have hgj := hget j hj
      refine ⟨?_, ?_⟩
      · simp only [World.cell?, hg, Nat.zero_add]
        simpa [hj] using hgj
      · simp [World.frozen?, hg]
    refine (calls_of_every_depth fun D => AnyS.slices_Sort_int_in Tryz.laysSort D g 0 cap zs w hH (Array.getElem?_eq_some_iff.1 hg).1 (by omega)).mono ?_
    rintro e w' ⟨rfl, n, os, rfl⟩
    have hb : ∀ b, b < w.heap.size → (grow (putRow (Value.int .i64) (Sort.ahead w n) g 0 (zs.mergeSort fun x y => decide (x ≤ y)).toArray) os).heap[b]? = (putRow (Value.int .i64) w g 0 (zs.mergeSort fun x y => decide (x ≤ y)).toArray).heap[b]? := fun b hb => by
      show ((putRow (Value.int .i64) (Sort.ahead w n) g 0 (zs.mergeSort fun x y => decide (x ≤ y)).toArray).heap ++ os)[b]? = _
      rw [Array.getElem?_append_left (by simpa [putRow, mapBlock, Sort.ahead] using hb)]
      rfl
    have hglt : g < w.heap.size := (Array.getElem?_eq_some_iff.1 hg).1
    have hms : (zs.mergeSort fun x y => decide (x ≤ y)).length = zs.length := List.length_mergeSort ..
    refine ⟨rfl, rfl, rfl, rfl, ?_, fun b hlt hne => ?_, putCells (Value.int .i64) 0 (zs.mergeSort fun x y => decide (x ≤ y)).toArray cur, ?_, ?_, ?_⟩
    · show w.heap.size ≤ ((putRow (Value.int .i64) (Sort.ahead w n) g 0 (zs.mergeSort fun x y => decide (x ≤ y)).toArray).heap ++ os).size
      rw [Array.size_append]
      have : (putRow (Value.int .i64) (Sort.ahead w n) g 0 (zs.mergeSort fun x y => decide (x ≤ y)).toArray).heap.size = w.heap.size := by simp [putRow, mapBlock, Sort.ahead]
      omega
    · rw [hb b hlt]
      simp [putRow, mapBlock, Array.getElem?_modify, Ne.symm hne]
    · rw [hb g hglt]
      simp [putRow, mapBlock, Array.getElem?_modify, hg]
      rfl
    · simp [putCells]
    · refine List.ext_getElem? fun i => ?_
      rw [List.getElem?_take, List.getElem?_map]
      split
      · rename_i hi
        have hgi := hget i hi
        simp only [putCells, Array.getElem?_toList, Array.getElem?_mapIdx, hgi, Option.map_some]
        rw [if_pos ⟨by omega, by simp [hms]; omega⟩]
        have hi' : i < (zs.mergeSort fun x y => decide (x ≤ y)).length := by omega
        simp only [List.getElem!_toArray, Nat.sub_zero, List.getElem!_eq_getElem?_getD, List.getElem?_eq_getElem hi', Option.getD_some, Option.map_some]
      · rw [List.getElem?_eq_none (by omega)]; rfl

end Go.Proofs

/- What is told of the program. -/
namespace Go.Fw
open Go Go.Proofs

/-! ### The context -/
def cx : Ctx := { tys := tys, eqs := [(52, [.int .i64, .bool])], exts := [(82, 1)], srt := [(78, 1)] }
theorem ext82 (s : ByteArray) (c : Int) (w : World) : (callFunc 82 #[.string s, .int .u8 c]).run Tryz.prog w = .ok (.value (.int .i64 (Lib.indexByte s.data.toList c.toNat.toUInt8))) w := by
  rw [run_callFunc_extern (P := Tryz.prog) (f := 82) (fn := Tryz.f82) (e := Extern.BytealgIndexByte.indexByte) (by kernel_rfl) (by kernel_rfl) (by kernel_rfl) (by kernel_rfl) (by kernel_rfl), Lib.run_indexByteString]
  rfl
theorem cx_eqs : ∀ t ds, look cx.eqs t = some ds → Tryz.prog.eqGuardType Tryz.prog.depth t = false ∧
    ∀ (w : World) (xs ys : List Value) (r : Bool), eqVs ds xs ys = some r → (Op.equalIn 10000 t (.agg xs.toArray) (.agg ys.toArray)).run Tryz.prog w = .ok r w := fun t n h => by
  simp only [cx, look] at h
  split at h
  · rename_i ht
    cases h
    have : t = 52 := by have := Nat.eq_of_beq_eq_true ht; exact this.symm
    subst this
    exact ⟨by kernel_rfl, eqs_fields tys_ok (by kernel_rfl) (by kernel_rfl) (by kernel_rfl)⟩
  · cases h
theorem cx_exts : ∀ f k, look cx.exts f = some k → ∀ (s : ByteArray) (c : Int) (w : World), (callFunc f #[.string s, .int .u8 c]).run Tryz.prog w = .ok (.value (.int .i64 (Lib.indexByte s.data.toList c.toNat.toUInt8))) w := fun f k h => by
  simp only [cx, look] at h
  split at h
  · rename_i ht
    have : f = 82 := by have := Nat.eq_of_beq_eq_true ht; exact this.symm
    subst this
    exact ext82
  · cases h
theorem cx_srt : ∀ f k, look cx.srt f = some k → SortOK Tryz.prog f := fun f k h => by
  simp only [cx, look] at h
  split at h
  · rename_i ht
    have : f = 78 := by have := Nat.eq_of_beq_eq_true ht; exact this.symm
    subst this
    exact try_sort
  · cases h
theorem cx_ok : cx.OK Tryz.prog := ⟨by kernel_rfl, tys_ok, cx_eqs, cx_exts, cx_srt⟩
/-- The same, where sums may wrap. -/
def cxw : Ctx := { cx with wrap := true }
theorem cxw_ok : cxw.OK Tryz.prog := ⟨cx_ok.mixed, cx_ok.tys, cx_ok.eqs, cx_ok.exts, cx_ok.srt⟩
/-- The same, for functions that write objects of their callers: these are called by what is said of them. -/
def cxm : Ctx := { cx with slz := true, inl := [(115, 1), (116, 1), (117, 1), (118, 1), (119, 1), (57, 1), (60, 1), (73, 1), (75, 1), (39, 1), (42, 1), (38, 1), (40, 1), (26, 1), (28, 1)] }
theorem cxm_ok : cxm.OK Tryz.prog := ⟨cx_ok.mixed, cx_ok.tys, cx_ok.eqs, cx_ok.exts, cx_ok.srt⟩
abbrev modH (P : Program) : HW := fun f args _ env st K' => ModH P f args env st K'
theorem mH_ok {P : Program} : HOK P (modH P) := modH_ok

end Go.Fw

/- What the program's functions do, part 1: lists of numbers and literals. -/
namespace Go.Fw
open Go Go.Proofs
set_option maxRecDepth 10000

def od24 : Od := [(6, [(0, .pure), (1, .pure), (2, .pure), (3, .pure), (4, .pure), (5, .pure), (6, .pure), (7, .pure), (8, .pure)])]
def kp24 : Kp := [(4, ([0, 1, 12, 13], []))]

/-! ### Has, Holds -/
def hasB (l : List Int) (x : Int) : Bool := l.any (· == x)
def od43 : Od := []
def kp43 : Kp := [(2, ([1, 7, 8, 9], []))]
theorem f43_spec (n1 : Bool) (l : List Int) (x : Int) (out : List Fr) : SpecP Tryz.prog 53 [.ints n1 l, .int x] out fun r ro => r = .bool (hasB l x) ∧ ro = [] := by
  refine spec_body cx_ok kp43 od43 (fn := Tryz.f53) (by kernel_rfl) rfl (by kernel_rfl) rfl (by unfold FnOK; kernel_rfl) fun hok => ?_
  have hmx := le_max hok.1.1
  refine LoopW.mk Nat (fun i => i ≤ l.length ∧ (l.take i).any (· == x) = false) (fun i => [(1, .int x), (7, .ints n1 l), (8, .int (l.map tI).length), (9, .int i)]) (fun _ => ⟨out, []⟩) (fun i => l.length - i) 0 ⟨Nat.zero_le _, rfl⟩ ⟨rfl, rfl⟩ fun i hI => ?_
  refine And.intro (fun h1 => ?_) fun h1 => ?_
  · have hi := lt_of_dec h1
    refine And.intro (by omega) (Exists.intro _ (And.intro (get_map hi) ?_))
    refine And.intro (fun h2 => ?_) fun h2 => ?_
    · refine Exists.intro [] (And.intro ?_ rfl)
      have : hasB l x = true := List.any_eq_true.2 ⟨l[i], List.getElem_mem hi, h2⟩
      rw [this]; rfl
    · refine And.intro (by omega) (And.intro (by omega) ?_)
      refine Exists.intro (i + 1) (And.intro (by show l.length - (i + 1) < l.length - i; omega) (And.intro ⟨hi, ?_⟩ (And.intro rfl rfl)))
      rw [List.take_add_one, List.any_append, hI.2]; simpa [hi] using h2
  · have hi : i = l.length := by have := hI.1; have := ge_of_dec h1; omega
    refine Exists.intro [] (And.intro ?_ rfl)
    have : hasB l x = false := by have := hI.2; rw [hi, List.take_length] at this; exact this
    rw [this]; rfl

def holdsB (s : List Int) (l : List Lit) : Bool := l.all fun x => hasB s x.fact != x.neg
end Go.Fw

/- What the program's functions do, part 2: codes of literals; lists that rise. -/
namespace Go.Fw
open Go Go.Proofs
set_option maxRecDepth 10000

def codeI (l : Lit) : Int := if l.neg then 2 * l.fact + 1 else 2 * l.fact
def litI (n : Int) : Lit := ⟨n.tdiv 2, n.tmod 2 == 1⟩
def big (n : Int) : Prop := -4611686018427387000 ≤ n ∧ n ≤ 4611686018427387000

def od20 : Od := [(6, [(0, .pure), (1, .pure), (2, .pure), (3, .pure), (4, .pure), (5, .pure), (6, .pure), (7, .pure), (8, .pure)])]
def kp20 : Kp := [(4, ([0, 1, 12, 13], []))]
/-! ### Rising lists -/
def at0 (l : List Int) (i : Nat) : Int := l.getD i 0
def chkI (l : List Int) (n : Int) (i : Nat) : Bool := decide (0 ≤ at0 l i) && decide (at0 l i < n) && (i == 0 || decide (at0 l (i - 1) < at0 l i))
def risingB (l : List Int) (n : Int) : Bool := (List.range l.length).all (chkI l n)
theorem range_step {p : Nat → Bool} {i : Nat} (h : (List.range i).all p = true) (h2 : p i = true) : (List.range (i + 1)).all p = true := by
  rw [List.range_succ, List.all_append, h]; simp [h2]
theorem range_false {p : Nat → Bool} {i n : Nat} (hi : i < n) (h : p i = false) : (List.range n).all p = false := by
  cases hh : (List.range n).all p with
  | false => rfl
  | true => rw [List.all_eq_true.1 hh i (List.mem_range.2 hi)] at h; cases h
theorem at0_eq {l : List Int} {i : Nat} (h : i < l.length) : at0 l i = l[i] := by simp [at0, h]
theorem get_pred {α β : Type} {l : List α} {f : α → β} {i : Nat} (h : i < l.length) (h0 : 0 < i) : (l.map f)[((i : Int) - 1).toNat]? = some (f (l[i - 1]'(by omega))) := by
  have : ((i : Int) - 1).toNat = i - 1 := by omega
  rw [this]; simp [show i - 1 < l.length by omega]

def kp57 : Kp := [(2, ([0, 1, 7, 8, 9], []))]
theorem f57_spec (n1 : Bool) (l : List Int) (n : Int) (out : List Fr) : SpecP Tryz.prog 34 [.ints n1 l, .int n] out fun r ro => r = .bool (risingB l n) ∧ ro = [] := by
  refine spec_body cx_ok kp57 [] (fn := Tryz.f34) (by kernel_rfl) rfl (by kernel_rfl) rfl (by unfold FnOK; kernel_rfl) fun hok => ?_
  have hmx := le_max hok.1.1
  refine LoopW.mk Nat (fun i => i ≤ l.length ∧ (List.range i).all (chkI l n) = true) (fun i => [(0, .ints n1 l), (1, .int n), (7, .ints n1 l), (8, .int (l.map tI).length), (9, .int i)]) (fun _ => ⟨out, []⟩) (fun i => l.length - i) 0 ⟨Nat.zero_le _, rfl⟩ ⟨rfl, rfl⟩ fun i hI => ?_
  refine And.intro (fun h1 => ?_) fun h1 => ?_
  · have hi := lt_of_dec h1
    have ha := at0_eq hi
    refine And.intro (by omega) (Exists.intro _ (And.intro (get_map hi) ?_))
    refine And.intro (fun h2 => ?_) fun h2 => ?_
    · exact Exists.intro [] (ret_bool (range_false hi (by simp [chkI, ha]; simp at h2; omega)) rfl)
    · refine And.intro (fun h3 => ?_) fun h3 => ?_
      · exact Exists.intro [] (ret_bool (range_false hi (by simp [chkI, ha]; simp at h2 h3; omega)) rfl)
      · refine And.intro (fun h4 => ?_) fun h4 => ?_
        · have h0 : 0 < i := by simp at h4; omega
          have hp := at0_eq (l := l) (i := i - 1) (by omega)
          refine And.intro (by omega) (And.intro (by omega) (And.intro (by omega) (Exists.intro _ (And.intro (get_pred hi h0) ?_))))
          refine And.intro (fun h5 => ?_) fun h5 => ?_
          · exact Exists.intro [] (ret_bool (range_false hi (by simp [chkI, ha, hp]; simp at h2 h3 h5; omega)) rfl)
          · refine And.intro (by omega) (And.intro (by omega) ?_)
            exact Exists.intro (i + 1) (And.intro (by show l.length - (i + 1) < l.length - i; omega) (And.intro ⟨hi, range_step hI.2 (by simp [chkI, ha, hp]; simp at h2 h3 h5; omega)⟩ (And.intro rfl rfl)))
        · have h0 : i = 0 := by simp at h4; omega
          refine And.intro (by omega) (And.intro (by omega) ?_)
          exact Exists.intro (i + 1) (And.intro (by show l.length - (i + 1) < l.length - i; omega) (And.intro ⟨hi, range_step hI.2 (by simp [chkI, ha]; simp at h2 h3; omega)⟩ (And.intro rfl rfl)))
  · have hi : i = l.length := by have := hI.1; have := ge_of_dec h1; omega
    exact Exists.intro [] (ret_bool (by have := hI.2; rw [hi] at this; exact this) rfl)

end Go.Fw

/- What the program's functions do, part 3: names. -/
namespace Go.Fw
open Go Go.Proofs
set_option maxRecDepth 10000

abbrev LV.str (s : ByteArray) : LV := .t (.v (.string s))
abbrev LV.byte (c : Int) : LV := .t (.v (.int .u8 c))
def byAt (s : ByteArray) (i : Nat) : Int := ((s.data[i]?.getD 0).toNat : Int)
theorem byAt_get {s : ByteArray} {i : Nat} (h : i < s.size) : s.data[((i : Int)).toNat]? = some (s.data[i]?.getD 0) := by
  have : i < s.data.size := h
  simp only [Int.toNat_natCast]
  rw [Array.getElem?_eq_getElem this]; rfl

def letterB (c : Int) : Bool := (decide (97 ≤ c) && decide (c ≤ 122)) || (decide (65 ≤ c) && decide (c ≤ 90))
def digitB (c : Int) : Bool := decide (48 ≤ c) && decide (c ≤ 57)
def withinB (s : ByteArray) (c : Int) : Bool := (List.range s.size).any fun i => byAt s i == c
def punct : ByteArray := ⟨#[45, 95, 40, 41, 44]⟩
def okB (c : Int) : Bool := letterB c || digitB c || withinB punct c
def nameB (s : ByteArray) : Bool := decide (1 ≤ s.size) && decide (s.size ≤ 40) && letterB (byAt s 0) && (List.range s.size).all fun i => okB (byAt s i)

theorem f80_spec (c : Int) (out : List Fr) : SpecP Tryz.prog 69 [.byte c] out fun r ro => r = .bool (letterB c) ∧ ro = [] := by
  refine spec_body cx_ok [] [] (fn := Tryz.f69) (by kernel_rfl) rfl (by kernel_rfl) rfl (by unfold FnOK; kernel_rfl) fun hok => ?_
  refine And.intro (fun h1 => ?_) fun h1 => ?_
  · refine And.intro (fun h2 => ?_) fun h2 => ?_
    · exact Exists.intro [] (ret_bool (by simp [letterB]; simp at h1 h2; omega) rfl)
    · refine And.intro (fun h3 => ?_) fun h3 => ?_
      · refine And.intro (fun h4 => ?_) fun h4 => ?_
        · exact Exists.intro [] (ret_bool (by simp [letterB]; simp at h1 h2 h3 h4; omega) rfl)
        · exact Exists.intro [] (ret_bool (by simp [letterB]; simp at h1 h2 h3 h4; omega) rfl)
      · exact Exists.intro [] (ret_bool (by simp [letterB]; simp at h1 h2 h3; omega) rfl)
  · refine And.intro (fun h3 => ?_) fun h3 => ?_
    · refine And.intro (fun h4 => ?_) fun h4 => ?_
      · exact Exists.intro [] (ret_bool (by simp [letterB]; simp at h1 h3 h4; omega) rfl)
      · exact Exists.intro [] (ret_bool (by simp [letterB]; simp at h1 h3 h4; omega) rfl)
    · exact Exists.intro [] (ret_bool (by simp [letterB]; simp at h1 h3; omega) rfl)

theorem f81_spec (c : Int) (out : List Fr) : SpecP Tryz.prog 70 [.byte c] out fun r ro => r = .bool (digitB c) ∧ ro = [] := by
  refine spec_body cx_ok [] [] (fn := Tryz.f70) (by kernel_rfl) rfl (by kernel_rfl) rfl (by unfold FnOK; kernel_rfl) fun hok => ?_
  refine And.intro (fun h1 => ?_) fun h1 => ?_
  · refine And.intro (fun h2 => ?_) fun h2 => ?_
    · exact Exists.intro [] (ret_bool (by simp [digitB]; simp at h1 h2; omega) rfl)
    · exact Exists.intro [] (ret_bool (by simp [digitB]; simp at h1 h2; omega) rfl)
  · exact Exists.intro [] (ret_bool (by simp [digitB]; simp at h1; omega) rfl)

theorem rany_true {p : Nat → Bool} {i n : Nat} (hi : i < n) (h : p i = true) : (List.range n).any p = true := List.any_eq_true.2 ⟨i, List.mem_range.2 hi, h⟩
theorem rany_step {p : Nat → Bool} {i : Nat} (h : (List.range i).any p = false) (h2 : p i = false) : (List.range (i + 1)).any p = false := by
  rw [List.range_succ, List.any_append, h]; simp [h2]

def kp82 : Kp := [(2, ([0, 1, 7, 8], []))]
theorem f82_spec (s : ByteArray) (c : Int) (hs : s.size ≤ 1000) (out : List Fr) : SpecP Tryz.prog 71 [.str s, .byte c] out fun r ro => r = .bool (withinB s c) ∧ ro = [] := by
  refine spec_body cx_ok kp82 [] (fn := Tryz.f71) (by kernel_rfl) rfl (by kernel_rfl) rfl (by unfold FnOK; kernel_rfl) fun hok => ?_
  refine LoopW.mk Nat (fun i => i ≤ s.size ∧ (List.range i).any (fun i => byAt s i == c) = false) (fun i => [(0, .str s), (1, .byte c), (7, .int s.size), (8, .int i)]) (fun _ => ⟨out, []⟩) (fun i => s.size - i) 0 ⟨Nat.zero_le _, rfl⟩ ⟨rfl, rfl⟩ fun i hI => ?_
  refine And.intro (fun h1 => ?_) fun h1 => ?_
  · have hi : i < s.size := by simpa using h1
    refine And.intro (by omega) (Exists.intro _ (And.intro (byAt_get hi) ?_))
    refine And.intro (fun h2 => ?_) fun h2 => ?_
    · exact Exists.intro [] (ret_bool (rany_true hi h2) rfl)
    · refine And.intro (by omega) (And.intro (by omega) ?_)
      exact Exists.intro (i + 1) (And.intro (by show s.size - (i + 1) < s.size - i; omega) (And.intro ⟨hi, rany_step hI.2 h2⟩ (And.intro rfl rfl)))
  · have hi : i = s.size := by have := hI.1; simp at h1; omega
    exact Exists.intro [] (ret_bool (by have := hI.2; rw [hi] at this; exact this) rfl)

def kp71 : Kp := [(4, ([0, 19, 20], []))]
theorem f71_spec (s : ByteArray) (out : List Fr) : SpecP Tryz.prog 54 [.str s] out fun r ro => r = .bool (nameB s) ∧ ro = [] := by
  refine spec_body cx_ok kp71 [] (fn := Tryz.f54) (by kernel_rfl) rfl (by kernel_rfl) rfl (by unfold FnOK; kernel_rfl) fun hok => ?_
  refine And.intro (fun h1 => ?_) fun h1 => ?_
  · exact Exists.intro [] (ret_bool (by simp [nameB]; simp at h1; omega) rfl)
  refine And.intro (fun h2 => ?_) fun h2 => ?_
  · exact Exists.intro [] (ret_bool (by simp [nameB]; simp at h2; omega) rfl)
  have hs : 1 ≤ s.size ∧ s.size ≤ 40 := by simp at h1 h2; omega
  refine And.intro (by decide) (Exists.intro _ (And.intro (byAt_get (i := 0) hs.1) ?_))
  refine SpecP.mono (f80_spec (byAt s 0) []) ?_
  rintro r ro ⟨rfl, rfl⟩
  refine And.intro (fun h3 => ?_) fun h3 => ?_
  · refine LoopW.mk Nat (fun i => i ≤ s.size ∧ (List.range i).all (fun i => okB (byAt s i)) = true) (fun i => [(0, .str s), (19, .int s.size), (20, .int i)]) (fun _ => ⟨out, []⟩) (fun i => s.size - i) 0 ⟨Nat.zero_le _, rfl⟩ ⟨rfl, rfl⟩ fun i hI => ?_
    refine And.intro (fun h4 => ?_) fun h4 => ?_
    · have hi : i < s.size := by simpa using h4
      refine And.intro (by omega) (Exists.intro _ (And.intro (byAt_get hi) ?_))
      refine SpecP.mono (f80_spec (byAt s i) []) ?_
      rintro r ro ⟨rfl, rfl⟩
      refine And.intro (fun h5 => ?_) fun h5 => ?_
      · refine And.intro (by omega) (And.intro (by omega) ?_)
        exact Exists.intro (i + 1) (And.intro (by show s.size - (i + 1) < s.size - i; omega) (And.intro ⟨hi, range_step hI.2 (by simp [okB, h5])⟩ (And.intro rfl rfl)))
      · refine And.intro (by omega) (Exists.intro _ (And.intro (byAt_get hi) ?_))
        refine SpecP.mono (f81_spec (byAt s i) []) ?_
        rintro r ro ⟨rfl, rfl⟩
        refine And.intro (fun h6 => ?_) fun h6 => ?_
        · refine And.intro (by omega) (And.intro (by omega) ?_)
          exact Exists.intro (i + 1) (And.intro (by show s.size - (i + 1) < s.size - i; omega) (And.intro ⟨hi, range_step hI.2 (by simp [okB, h6])⟩ (And.intro rfl rfl)))
        · refine And.intro (by omega) (Exists.intro _ (And.intro (byAt_get hi) ?_))
          refine SpecP.mono (f82_spec punct (byAt s i) (by decide) []) ?_
          rintro r ro ⟨rfl, rfl⟩
          refine And.intro (fun h7 => ?_) fun h7 => ?_
          · refine And.intro (by omega) (And.intro (by omega) ?_)
            exact Exists.intro (i + 1) (And.intro (by show s.size - (i + 1) < s.size - i; omega) (And.intro ⟨hi, range_step hI.2 (by simp [okB, h7])⟩ (And.intro rfl rfl)))
          · exact Exists.intro [] (ret_bool (by rw [nameB, range_false hi (by simp [okB, h5, h6, h7])]; simp) rfl)
    · have hi : i = s.size := by have := hI.1; simp at h4; omega
      have h5 := hI.2
      rw [hi] at h5
      exact Exists.intro [] (ret_bool (by rw [nameB, h5, h3]; simp; omega) rfl)
  · exact Exists.intro [] (ret_bool (by simp [nameB, h3]) rfl)

/-! ### Sets of names -/
def kvS (l : List ByteArray) : List (Value × T) := l.map fun s => (.string s, .v (.bool true))
theorem look_kvS (s : ByteArray) : ∀ l : List ByteArray, lookKV (.string s) (.v (.bool false)) (kvS l) = .v (.bool (l.any (s == ·)))
  | [] => rfl
  | x :: r => by
    have ih := look_kvS s r
    simp only [kvS, List.map_cons, lookKV, List.any_cons] at ih ⊢
    by_cases h : (s == x) = true
    · rw [if_pos (show sameK (.string s) (.string x) = true from h), h]; rfl
    · rw [if_neg (show ¬ sameK (.string s) (.string x) = true from h), ih]; simp [h]
theorem upd_kvS (s : ByteArray) : ∀ l : List ByteArray, l.any (s == ·) = false → updKV (.string s) (.v (.bool true)) (kvS l) = kvS (l ++ [s])
  | [], _ => rfl
  | x :: r, h => by
    simp only [List.any_cons, Bool.or_eq_false_iff] at h
    have ih := upd_kvS s r h.2
    simp only [kvS, List.map_cons, updKV, List.cons_append] at ih ⊢
    rw [if_neg (show ¬ sameK (.string s) (.string x) = true by show ¬ (s == x) = true; rw [h.1]; simp), ih]

def atS (l : List ByteArray) (i : Nat) : ByteArray := l[i]?.getD ⟨#[]⟩
def chkS (l : List ByteArray) (i : Nat) : Bool := nameB (atS l i) && !((l.take i).any (atS l i == ·))
def namesB (l : List ByteArray) : Bool := (List.range l.length).all (chkS l)
def kp56 : Kp := [(3, ([3, 7, 8, 9], [48]))]
theorem f56_spec (n1 : Bool) (l : List ByteArray) (out : List Fr) : SpecP Tryz.prog 33 [.t (.sl n1 1 (l.map tS))] out fun r ro => r = .bool (namesB l) ∧ ro = [] := by
  refine spec_body cx_ok kp56 [] (fn := Tryz.f33) (by kernel_rfl) rfl (by kernel_rfl) rfl (by unfold FnOK; kernel_rfl) fun hok => ?_
  have hmx := le_max hok.1.1
  refine LoopW.mk Nat (fun i => i ≤ l.length ∧ (List.range i).all (chkS l) = true) (fun i => [(3, .mpr (.cur 48)), (7, .t (.sl n1 1 (l.map tS))), (8, .int (l.map tS).length), (9, .int i)]) (fun i => ⟨out, [(48, .mp .str (kvS (l.take i)))]⟩) (fun i => l.length - i) 0 ⟨Nat.zero_le _, rfl⟩ ⟨rfl, rfl⟩ fun i hI => ?_
  refine And.intro (fun h1 => ?_) fun h1 => ?_
  · have hi := lt_of_dec h1
    have ha : atS l i = l[i] := by simp [atS, hi]
    refine And.intro (by omega) (Exists.intro _ (And.intro (get_map hi) ?_))
    refine SpecP.mono (f71_spec l[i] []) ?_
    rintro r ro ⟨rfl, rfl⟩
    refine And.intro (fun h2 => ?_) fun h2 => ?_
    · refine Exists.intro _ (And.intro (look_kvS _ _) ?_)
      refine And.intro (fun h3 => ?_) fun h3 => ?_
      · exact Exists.intro [] (ret_bool (range_false hi (by simp only [chkS, ha, h3]; simp)) rfl)
      · refine And.intro (by omega) (And.intro (by omega) ?_)
        refine Exists.intro (i + 1) (And.intro (by show l.length - (i + 1) < l.length - i; omega) (And.intro ⟨hi, range_step hI.2 (by simp only [chkS, ha, h2, h3]; simp)⟩ (And.intro rfl ?_)))
        have e : updKV (.string l[i]) (.v (.bool true)) (kvS (l.take i)) = kvS (l.take (i + 1)) := by
          rw [upd_kvS _ _ h3, List.take_add_one]; simp [hi]
        show (⟨out, [(48, .mp .str (updKV (.string l[i]) (.v (.bool true)) (kvS (l.take i))))]⟩ : St) = _
        rw [e]
    · exact Exists.intro [] (ret_bool (range_false hi (by simp only [chkS, ha, h2]; simp)) rfl)
  · have hi : i = l.length := by have := hI.1; have := ge_of_dec h1; omega
    exact Exists.intro [] (ret_bool (by have := hI.2; rw [hi] at this; exact this) rfl)

end Go.Fw

/- What the program's functions do, part 4: conditions; valid tasks. -/
namespace Go.Fw
open Go Go.Proofs
set_option maxRecDepth 10000

def condB (l : List Lit) (n : Int) : Bool := risingB (l.map (·.fact)) n
def effB (n : Int) (e : Eff) : Bool := condB e.when_ n && decide (0 ≤ e.lit.fact) && decide (e.lit.fact < n)
def actB (n : Int) (a : Actn) : Bool := decide (0 ≤ a.cost) && decide (a.cost ≤ 100000) && condB a.pre n && decide (a.effs.length ≤ 100) && a.effs.all (effB n)
def isB (t : Task) : Bool := decide (t.facts.length ≤ 200) && namesB t.facts && risingB t.init t.facts.length && condB t.goal t.facts.length && decide (t.acts.length ≤ 1000) &&
  t.acts.all (actB t.facts.length) && namesB (t.acts.map (·.name))

theorem atF_eq {l : List Lit} {i : Nat} (h : i < l.length) : at0 (l.map (·.fact)) i = l[i].fact := by simp [at0, h]

def od58 : Od := [(4, [(0, .pure), (1, .pure), (2, .pure), (3, .pure), (4, .pure), (5, .pure), (6, .pure), (7, .pure), (8, .pure), (9, .pure), (10, .pure), (11, .pure), (12, .pure), (13, .pure), (14, .pure), (15, .pure), (16, .pure), (17, .pure), (18, .pure), (19, .pure), (20, .pure), (21, .pure), (22, .pure), (23, .pure)])]
def kp58 : Kp := [(2, ([0, 1, 7, 8, 9], []))]
theorem f58_spec (n1 : Bool) (l : List Lit) (n : Int) (out : List Fr) : SpecP Tryz.prog 35 [.lits n1 l, .int n] out fun r ro => r = .bool (condB l n) ∧ ro = [] := by
  refine spec_body cx_ok kp58 od58 (fn := Tryz.f35) (by kernel_rfl) rfl (by kernel_rfl) rfl (by unfold FnOK; kernel_rfl) fun hok => ?_
  have hmx := le_max hok.1.1
  have hlen : (l.map (·.fact)).length = l.length := List.length_map ..
  refine LoopW.mk Nat (fun i => i ≤ l.length ∧ (List.range i).all (chkI (l.map (·.fact)) n) = true) (fun i => [(0, .lits n1 l), (1, .int n), (7, .lits n1 l), (8, .int (l.map tLit).length), (9, .int i)]) (fun _ => ⟨out, []⟩) (fun i => l.length - i) 0 ⟨Nat.zero_le _, rfl⟩ ⟨rfl, rfl⟩ fun i hI => ?_
  refine And.intro (fun h1 => ?_) fun h1 => ?_
  · have hi := lt_of_dec h1
    have hi' : i < (l.map (·.fact)).length := by rw [hlen]; exact hi
    have ha := atF_eq hi
    refine And.intro (by omega) (Exists.intro _ (And.intro (get_map hi) ?_))
    refine And.intro (fun h2 => ?_) fun h2 => ?_
    · exact Exists.intro [] (ret_bool (range_false hi' (by simp [chkI, ha]; simp at h2; omega)) rfl)
    · refine And.intro (fun h3 => ?_) fun h3 => ?_
      · exact Exists.intro [] (ret_bool (range_false hi' (by simp [chkI, ha]; simp at h2 h3; omega)) rfl)
      · refine And.intro (fun h4 => ?_) fun h4 => ?_
        · have h0 : 0 < i := by simp at h4; omega
          have hp := atF_eq (l := l) (i := i - 1) (by omega)
          refine And.intro (by omega) (And.intro (by omega) (And.intro (by omega) (Exists.intro _ (And.intro (get_pred hi h0) ?_))))
          refine And.intro (fun h5 => ?_) fun h5 => ?_
          · exact Exists.intro [] (ret_bool (range_false hi' (by simp [chkI, ha, hp]; simp at h2 h3 h5; omega)) rfl)
          · refine And.intro (by omega) (And.intro (by omega) ?_)
            exact Exists.intro (i + 1) (And.intro (by show l.length - (i + 1) < l.length - i; omega) (And.intro ⟨hi, range_step hI.2 (by simp [chkI, ha, hp]; simp at h2 h3 h5; omega)⟩ (And.intro rfl rfl)))
        · have h0 : i = 0 := by simp at h4; omega
          refine And.intro (by omega) (And.intro (by omega) ?_)
          exact Exists.intro (i + 1) (And.intro (by show l.length - (i + 1) < l.length - i; omega) (And.intro ⟨hi, range_step hI.2 (by simp [chkI, ha]; simp at h2 h3; omega)⟩ (And.intro rfl rfl)))
  · have hi : i = l.length := by have := hI.1; have := ge_of_dec h1; omega
    exact Exists.intro [] (ret_bool (by have := hI.2; rw [hi, ← hlen] at this; exact this) rfl)

end Go.Fw

/- What the program's functions do, part 5: valid tasks. -/
namespace Go.Fw
open Go Go.Proofs
set_option maxRecDepth 10000

/-! ### Lists that are gathered -/
def accV (s sz : Nat) (es : List (List T)) : LV := match es with
  | [] => .t (.sl true 0 [])
  | x :: r => .osl (.cur s) sz 0 (x :: r).length
def accO (s e sz : Nat) (es : List (List T)) : Fr := match es with
  | [] => []
  | x :: r => [(s, .row e sz (x :: r))]

def kp31 : Kp := [(6, ([3, 4, 41, 42, 43], [784])), (11, ([3, 4, 6, 41, 42, 43, 69, 70, 71], [48, 784]))]
theorem f31_spec (t : Task) (out : List Fr) : SpecP Tryz.prog 15 [.task t] out fun r ro => r = .bool (isB t) ∧ ro = [] := by
  refine spec_body cx_ok kp31 [] (fn := Tryz.f15) (by kernel_rfl) rfl (by kernel_rfl) rfl (by unfold FnOK; kernel_rfl) fun hok => ?_
  have hfm := le_max hok.1.1.1
  have ham := le_max hok.1.2.2.2.1.1
  refine And.intro (fun h1 => ?_) fun h1 => ?_
  · exact Exists.intro [] (ret_bool (by simp at h1; simp [isB]; omega) rfl)
  refine SpecP.mono (f56_spec t.fn t.facts []) ?_
  rintro r ro ⟨rfl, rfl⟩
  refine And.intro (fun h2 => ?_) fun h2 => ?_
  rotate_left
  · exact Exists.intro [] (ret_bool (by simp [isB, h2]) rfl)
  refine SpecP.mono (f57_spec t.ni t.init (t.facts.map tS).length []) ?_
  rintro r ro ⟨rfl, rfl⟩
  rw [List.length_map]
  refine And.intro (fun h3 => ?_) fun h3 => ?_
  rotate_left
  · exact Exists.intro [] (ret_bool (by simp [isB, h3]) rfl)
  refine SpecP.mono (f58_spec t.gn t.goal t.facts.length []) ?_
  rintro r ro ⟨rfl, rfl⟩
  refine And.intro (fun h4 => ?_) fun h4 => ?_
  rotate_left
  · exact Exists.intro [] (ret_bool (by simp [isB, h4]) rfl)
  refine And.intro (fun h5 => ?_) fun h5 => ?_
  · exact Exists.intro [] (ret_bool (by simp at h5; simp [isB]; omega) rfl)
  have hl1 : t.facts.length ≤ 200 := by simp at h1; omega
  have hl2 : t.acts.length ≤ 1000 := by simp at h5; omega
  refine LoopW.mk (Nat × List ByteArray) (fun p => p.1 ≤ t.acts.length ∧ p.2 = (t.acts.take p.1).map (·.name) ∧ (t.acts.take p.1).all (actB t.facts.length) = true)
    (fun p => [(3, .int t.facts.length), (4, accV 784 1 (p.2.map tS)), (41, .t (.sl t.an 4 (t.acts.map tAct))), (42, .int (t.acts.map tAct).length), (43, .int p.1)])
    (fun p => ⟨out, accO 784 9 1 (p.2.map tS)⟩) (fun p => t.acts.length - p.1) (0, []) ⟨Nat.zero_le _, rfl, rfl⟩ ⟨rfl, rfl⟩ ?_
  rintro ⟨i, nm⟩ ⟨hi0, hnm, hall⟩
  simp only at hi0 hnm hall
  cases nm with
  | nil =>
    refine And.intro (fun h6 => ?_) fun h6 => ?_
    · have hi : i < t.acts.length := lt_of_dec h6
      have hact : ∀ (h : actB t.facts.length t.acts[i] = false), isB t = false := fun h => by simp [isB, all_false hi h]
      refine And.intro (by omega) (Exists.intro _ (And.intro (get_map hi) ?_))
      refine And.intro (fun h7 => ?_) fun h7 => ?_
      · exact Exists.intro [] (ret_bool (hact (by simp at h7; simp [actB]; omega)) rfl)
      refine And.intro (fun h8 => ?_) fun h8 => ?_
      · exact Exists.intro [] (ret_bool (hact (by simp at h8; simp [actB]; omega)) rfl)
      refine SpecP.mono (f58_spec t.acts[i].pn t.acts[i].pre t.facts.length []) ?_
      rintro _ _ ⟨rfl, rfl⟩
      refine And.intro (fun h9 => ?_) fun h9 => ?_
      rotate_left
      · exact Exists.intro [] (ret_bool (hact (by simp [actB, h9])) rfl)
      refine And.intro (fun h10 => ?_) fun h10 => ?_
      · exact Exists.intro [] (ret_bool (hact (by simp at h10; simp [actB]; omega)) rfl)
      have hel : t.acts[i].effs.length ≤ 100 := by simp at h10; omega
      refine LoopW.mk Nat (fun j => j ≤ t.acts[i].effs.length ∧ (t.acts[i].effs.take j).all (effB t.facts.length) = true)
        (fun j => [(3, .int t.facts.length), (4, .t (.sl true 0 [])), (6, .ptr (.cur 48) 0), (41, .t (.sl t.an 4 (t.acts.map tAct))), (42, .int (t.acts.map tAct).length), (43, .int i), (69, .t (.sl t.acts[i].en 3 (t.acts[i].effs.map tEff))), (70, .int (t.acts[i].effs.map tEff).length), (71, .int j)])
        (fun j => ⟨out, (48, .box [.t (.v (.string t.acts[i].name)), .t (.v (.int .i64 t.acts[i].cost)), .t (.sl t.acts[i].pn 2 (t.acts[i].pre.map tLit)), .t (.sl t.acts[i].en 3 (t.acts[i].effs.map tEff))]) :: []⟩) (fun j => t.acts[i].effs.length - j) 0 ⟨Nat.zero_le _, rfl⟩ ⟨rfl, rfl⟩ fun j hJ => ?_
      refine And.intro (fun k1 => ?_) fun k1 => ?_
      · have hj : j < t.acts[i].effs.length := lt_of_dec k1
        have heff : ∀ (h : effB t.facts.length t.acts[i].effs[j] = false), isB t = false := fun h => hact (by simp [actB, all_false hj h])
        refine And.intro (by omega) (Exists.intro _ (And.intro (get_map hj) ?_))
        refine SpecP.mono (f58_spec t.acts[i].effs[j].nil t.acts[i].effs[j].when_ t.facts.length []) ?_
        rintro _ _ ⟨rfl, rfl⟩
        refine And.intro (fun k2 => ?_) fun k2 => ?_
        rotate_left
        · exact Exists.intro [] (ret_bool (heff (by simp [effB, k2])) rfl)
        refine And.intro (fun k3 => ?_) fun k3 => ?_
        · exact Exists.intro [] (ret_bool (heff (by simp at k3; simp [effB]; omega)) rfl)
        refine And.intro (fun k4 => ?_) fun k4 => ?_
        · exact Exists.intro [] (ret_bool (heff (by simp at k4; simp [effB]; omega)) rfl)
        refine And.intro (by omega) (And.intro (by omega) ?_)
        exact Exists.intro (j + 1) (And.intro (by show t.acts[i].effs.length - (j + 1) < t.acts[i].effs.length - j; omega) (And.intro ⟨hj, all_step hj hJ.2 (by simp at k3 k4; simp [effB, k2]; omega)⟩ (And.intro rfl rfl)))
      · have he : t.acts[i].effs.all (effB t.facts.length) = true := all_end (ge_of_dec k1) hJ.2
        have ha : actB t.facts.length t.acts[i] = true := by simp at h7 h8 h10; simp [actB, h9, he]; omega
        refine And.intro (Nat.le_of_ble_eq_true rfl) (And.intro (Nat.le_of_ble_eq_true rfl) (And.intro (Nat.le_of_ble_eq_true rfl) ?_))
        refine And.intro (by omega) (And.intro (by omega) ?_)
        exact Exists.intro (i + 1, [t.acts[i].name]) (And.intro (by show t.acts.length - (i + 1) < t.acts.length - i; omega) (And.intro ⟨hi, by show [t.acts[i].name] = _; rw [List.take_add_one, List.map_append, ← hnm]; simp [hi], all_step hi hall ha⟩ (And.intro rfl rfl)))
    · have hi : i = t.acts.length := by have := ge_of_dec h6; omega
      have hbase : isB t = namesB (t.acts.map (·.name)) := by
        rw [hi, List.take_length] at hall
        simp [isB, h2, h3, h4, hl1, hl2, hall]
      have hnm2 : [] = t.acts.map (·.name) := by rw [hnm, hi, List.take_length]
      refine SpecP.conv1 nil_sz (SpecP.mono (f56_spec true [] []) ?_)
      rintro _ _ ⟨rfl, rfl⟩
      refine And.intro (fun h => ?_) fun h => ?_
      · exact Exists.intro [] (ret_bool (by rw [hbase, ← hnm2]; exact h) rfl)
      · exact Exists.intro [] (ret_bool (by rw [hbase, ← hnm2]; exact h) rfl)
  | cons x r =>
    refine And.intro (fun h6 => ?_) fun h6 => ?_
    · have hi : i < t.acts.length := lt_of_dec h6
      have hact : ∀ (h : actB t.facts.length t.acts[i] = false), isB t = false := fun h => by simp [isB, all_false hi h]
      refine And.intro (by omega) (Exists.intro _ (And.intro (get_map hi) ?_))
      refine And.intro (fun h7 => ?_) fun h7 => ?_
      · exact Exists.intro [] (ret_bool (hact (by simp at h7; simp [actB]; omega)) rfl)
      refine And.intro (fun h8 => ?_) fun h8 => ?_
      · exact Exists.intro [] (ret_bool (hact (by simp at h8; simp [actB]; omega)) rfl)
      refine SpecP.mono (f58_spec t.acts[i].pn t.acts[i].pre t.facts.length []) ?_
      rintro _ _ ⟨rfl, rfl⟩
      refine And.intro (fun h9 => ?_) fun h9 => ?_
      rotate_left
      · exact Exists.intro [] (ret_bool (hact (by simp [actB, h9])) rfl)
      refine And.intro (fun h10 => ?_) fun h10 => ?_
      · exact Exists.intro [] (ret_bool (hact (by simp at h10; simp [actB]; omega)) rfl)
      have hel : t.acts[i].effs.length ≤ 100 := by simp at h10; omega
      refine LoopW.mk Nat (fun j => j ≤ t.acts[i].effs.length ∧ (t.acts[i].effs.take j).all (effB t.facts.length) = true)
        (fun j => [(3, .int t.facts.length), (4, .osl (.cur 784) 1 0 ((x :: r).map tS).length), (6, .ptr (.cur 48) 0), (41, .t (.sl t.an 4 (t.acts.map tAct))), (42, .int (t.acts.map tAct).length), (43, .int i), (69, .t (.sl t.acts[i].en 3 (t.acts[i].effs.map tEff))), (70, .int (t.acts[i].effs.map tEff).length), (71, .int j)])
        (fun j => ⟨out, (48, .box [.t (.v (.string t.acts[i].name)), .t (.v (.int .i64 t.acts[i].cost)), .t (.sl t.acts[i].pn 2 (t.acts[i].pre.map tLit)), .t (.sl t.acts[i].en 3 (t.acts[i].effs.map tEff))]) :: [(784, .row 9 1 ((x :: r).map tS))]⟩) (fun j => t.acts[i].effs.length - j) 0 ⟨Nat.zero_le _, rfl⟩ ⟨rfl, rfl⟩ fun j hJ => ?_
      refine And.intro (fun k1 => ?_) fun k1 => ?_
      · have hj : j < t.acts[i].effs.length := lt_of_dec k1
        have heff : ∀ (h : effB t.facts.length t.acts[i].effs[j] = false), isB t = false := fun h => hact (by simp [actB, all_false hj h])
        refine And.intro (by omega) (Exists.intro _ (And.intro (get_map hj) ?_))
        refine SpecP.mono (f58_spec t.acts[i].effs[j].nil t.acts[i].effs[j].when_ t.facts.length []) ?_
        rintro _ _ ⟨rfl, rfl⟩
        refine And.intro (fun k2 => ?_) fun k2 => ?_
        rotate_left
        · exact Exists.intro [] (ret_bool (heff (by simp [effB, k2])) rfl)
        refine And.intro (fun k3 => ?_) fun k3 => ?_
        · exact Exists.intro [] (ret_bool (heff (by simp at k3; simp [effB]; omega)) rfl)
        refine And.intro (fun k4 => ?_) fun k4 => ?_
        · exact Exists.intro [] (ret_bool (heff (by simp at k4; simp [effB]; omega)) rfl)
        refine And.intro (by omega) (And.intro (by omega) ?_)
        exact Exists.intro (j + 1) (And.intro (by show t.acts[i].effs.length - (j + 1) < t.acts[i].effs.length - j; omega) (And.intro ⟨hj, all_step hj hJ.2 (by simp at k3 k4; simp [effB, k2]; omega)⟩ (And.intro rfl rfl)))
      · have he : t.acts[i].effs.all (effB t.facts.length) = true := all_end (ge_of_dec k1) hJ.2
        have ha : actB t.facts.length t.acts[i] = true := by simp at h7 h8 h10; simp [actB, h9, he]; omega
        have hln : (x :: r).length = i := by rw [hnm]; simp; omega
        have hln2 : ((tS x :: r.map tS) ++ [tS t.acts[i].name]).length = i + 1 := by simp at hln ⊢; omega
        refine And.intro (Nat.le_of_ble_eq_true rfl) (And.intro rfl (And.intro (by show ((tS x :: r.map tS) ++ [tS t.acts[i].name]).length * 16 ≤ _; rw [hln2]; omega) (And.intro (by show ((tS x :: r.map tS) ++ [tS t.acts[i].name]).length ≤ _; rw [hln2]; omega) ?_)))
        refine And.intro (by omega) (And.intro (by omega) ?_)
        have e : (r ++ [t.acts[i].name]).map tS = r.map tS ++ [tS t.acts[i].name] := by simp
        refine Exists.intro (i + 1, x :: (r ++ [t.acts[i].name])) (And.intro (by show t.acts.length - (i + 1) < t.acts.length - i; omega) (And.intro ⟨hi, by show x :: (r ++ [t.acts[i].name]) = _; rw [List.take_add_one, List.map_append, ← hnm]; simp [hi], all_step hi hall ha⟩ ?_))
        simp only [List.map_cons, e]
        exact And.intro rfl rfl
    · have hi : i = t.acts.length := by have := ge_of_dec h6; omega
      have hbase : isB t = namesB (t.acts.map (·.name)) := by
        rw [hi, List.take_length] at hall
        simp [isB, h2, h3, h4, hl1, hl2, hall]
      have hnm2 : x :: r = t.acts.map (·.name) := by rw [hnm, hi, List.take_length]
      refine Exists.intro ((x :: r).map tS) (And.intro (by show _ = List.take _ (List.drop 0 _); rw [List.drop_zero, List.take_of_length_le (Nat.le_refl _)]; rfl) (And.intro (by simp) ?_))
      refine SpecP.mono (f56_spec false (x :: r) _) ?_
      rintro _ _ ⟨rfl, rfl⟩
      refine And.intro trivial (And.intro trivial ?_)
      refine And.intro (fun h => ?_) fun h => ?_
      · exact Exists.intro [] (ret_bool (by rw [hbase, ← hnm2]; exact h) rfl)
      · exact Exists.intro [] (ret_bool (by rw [hbase, ← hnm2]; exact h) rfl)

end Go.Fw

/- What the program's functions do, part 6: states and their bits. -/
namespace Go.Fw
open Go Go.Proofs
set_option maxRecDepth 10000

theorem f32_spec (t : Task) (n1 : Bool) (s : List Int) (out : List Fr) : SpecP Tryz.prog 16 [.task t, .ints n1 s] out fun r ro => r = .bool (risingB s t.facts.length) ∧ ro = [] := by
  refine spec_body cx_ok [] [] (fn := Tryz.f16) (by kernel_rfl) rfl (by kernel_rfl) rfl (by unfold FnOK; kernel_rfl) fun hok => ?_
  refine SpecP.mono (f57_spec n1 s (t.facts.map tS).length []) ?_
  rintro _ _ ⟨rfl, rfl⟩
  rw [List.length_map]
  refine And.intro (fun h => ?_) fun h => ?_
  · exact Exists.intro [] (ret_bool h rfl)
  · exact Exists.intro [] (ret_bool h rfl)

def bitsL (n : Nat) (l : List Int) : List Bool := l.foldl (fun b x => b.set x.toNat true) (List.replicate n false)
theorem bitsL_length (n : Nat) (l : List Int) : (bitsL n l).length = n := by
  have : ∀ (l : List Int) (b : List Bool), (l.foldl (fun b x => b.set x.toNat true) b).length = b.length := by
    intro l
    induction l with
    | nil => intro b; rfl
    | cons x r ih => intro b; rw [List.foldl_cons, ih]; simp
  rw [bitsL, this]; simp
theorem bitsL_step {n : Nat} {l : List Int} {i : Nat} (h : i < l.length) : bitsL n (l.take (i + 1)) = (bitsL n (l.take i)).set l[i].toNat true := by
  rw [bitsL, List.take_add_one, List.foldl_append]; simp [h, bitsL]
theorem map_set' {b : List Bool} {i : Nat} {x : Bool} : (b.map tB).set i (tB x) = (b.set i x).map tB := by rw [List.map_set]

end Go.Fw

/- What the program's functions do, part 7: the list of bits. -/
namespace Go.Fw
open Go Go.Proofs
set_option maxRecDepth 10000

def listFrom : Nat → List Bool → List Int
  | _, [] => []
  | k, b :: r => (if b then [(k : Int)] else []) ++ listFrom (k + 1) r
def listL (b : List Bool) : List Int := listFrom 0 b
theorem listFrom_snoc (b : Bool) : ∀ (l : List Bool) (k : Nat), listFrom k (l ++ [b]) = listFrom k l ++ if b then [((k + l.length : Nat) : Int)] else []
  | [], k => by simp [listFrom]
  | c :: r, k => by
    rw [List.cons_append, listFrom, listFrom_snoc b r (k + 1), listFrom, List.append_assoc]
    simp only [List.length_cons]
    rw [show k + 1 + r.length = k + (r.length + 1) by omega]
theorem listL_step {l : List Bool} {i : Nat} (h : i < l.length) : listL (l.take (i + 1)) = listL (l.take i) ++ if l[i] then [(i : Int)] else [] := by
  rw [List.take_add_one]
  simp only [h, List.getElem?_eq_getElem, Option.toList_some]
  rw [listL, listFrom_snoc, listL]
  have : (l.take i).length = i := by simp; omega
  rw [this, Nat.zero_add]
theorem listL_len (l : List Bool) (i : Nat) : (listL (l.take i)).length ≤ i := by
  have : ∀ (l : List Bool) (k : Nat), (listFrom k l).length ≤ l.length := by
    intro l
    induction l with
    | nil => intro k; simp [listFrom]
    | cons b r ih => intro k; have := ih (k + 1); cases b <;> simp [listFrom] <;> omega
  exact Nat.le_trans (this _ 0) (by simp; omega)

end Go.Fw

/- What the program's functions do, part 8: sets of literals. -/
namespace Go.Fw
open Go Go.Proofs
set_option maxRecDepth 10000

def setHas (b : List Bool) (l : List Lit) : Bool := l.all fun x => b.getD (codeI x).toNat false
end Go.Fw

/- What the program's functions do, part 9: the list of a set of literals. -/
namespace Go.Fw
open Go Go.Proofs
set_option maxRecDepth 10000

end Go.Fw

/- What the program's functions do, part 10: rising lists and conditions of package task. -/
namespace Go.Fw
open Go Go.Proofs
set_option maxRecDepth 10000

def kp64 : Kp := [(2, ([0, 1, 7, 8, 9], []))]
theorem f64_spec (n1 : Bool) (l : List Int) (n : Int) (out : List Fr) : SpecP Tryz.prog 47 [.int n, .ints n1 l] out fun r ro => r = .bool (risingB l n) ∧ ro = [] := by
  refine spec_body cx_ok kp64 [] (fn := Tryz.f47) (by kernel_rfl) rfl (by kernel_rfl) rfl (by unfold FnOK; kernel_rfl) fun hok => ?_
  have hmx := le_max hok.2.1.1
  refine LoopW.mk Nat (fun i => i ≤ l.length ∧ (List.range i).all (chkI l n) = true) (fun i => [(0, .int n), (1, .ints n1 l), (7, .ints n1 l), (8, .int (l.map tI).length), (9, .int i)]) (fun _ => ⟨out, []⟩) (fun i => l.length - i) 0 ⟨Nat.zero_le _, rfl⟩ ⟨rfl, rfl⟩ fun i hI => ?_
  refine And.intro (fun h1 => ?_) fun h1 => ?_
  · have hi := lt_of_dec h1
    have ha := at0_eq hi
    refine And.intro (by omega) (Exists.intro _ (And.intro (get_map hi) ?_))
    refine And.intro (fun h2 => ?_) fun h2 => ?_
    · exact Exists.intro [] (ret_bool (range_false hi (by simp [chkI, ha]; simp at h2; omega)) rfl)
    · refine And.intro (fun h3 => ?_) fun h3 => ?_
      · exact Exists.intro [] (ret_bool (range_false hi (by simp [chkI, ha]; simp at h2 h3; omega)) rfl)
      · refine And.intro (fun h4 => ?_) fun h4 => ?_
        · have h0 : 0 < i := by simp at h4; omega
          have hp := at0_eq (l := l) (i := i - 1) (by omega)
          refine And.intro (by omega) (And.intro (by omega) (And.intro (by omega) (Exists.intro _ (And.intro (get_pred hi h0) ?_))))
          refine And.intro (fun h5 => ?_) fun h5 => ?_
          · exact Exists.intro [] (ret_bool (range_false hi (by simp [chkI, ha, hp]; simp at h2 h3 h5; omega)) rfl)
          · refine And.intro (by omega) (And.intro (by omega) ?_)
            exact Exists.intro (i + 1) (And.intro (by show l.length - (i + 1) < l.length - i; omega) (And.intro ⟨hi, range_step hI.2 (by simp [chkI, ha, hp]; simp at h2 h3 h5; omega)⟩ (And.intro rfl rfl)))
        · have h0 : i = 0 := by simp at h4; omega
          refine And.intro (by omega) (And.intro (by omega) ?_)
          exact Exists.intro (i + 1) (And.intro (by show l.length - (i + 1) < l.length - i; omega) (And.intro ⟨hi, range_step hI.2 (by simp [chkI, ha]; simp at h2 h3; omega)⟩ (And.intro rfl rfl)))
  · have hi : i = l.length := by have := hI.1; have := ge_of_dec h1; omega
    exact Exists.intro [] (ret_bool (by have := hI.2; rw [hi] at this; exact this) rfl)

def od74 : Od := [(4, [(0, .pure), (1, .pure), (2, .pure), (3, .pure), (4, .pure), (5, .pure), (6, .pure), (7, .pure), (8, .pure), (9, .pure), (10, .pure), (11, .pure), (12, .pure), (13, .pure), (14, .pure), (15, .pure), (16, .pure), (17, .pure), (18, .pure), (19, .pure), (20, .pure), (21, .pure), (22, .pure), (23, .pure)])]
def kp74 : Kp := [(2, ([0, 1, 7, 8, 9], []))]
theorem f74_spec (n1 : Bool) (l : List Lit) (n : Int) (out : List Fr) : SpecP Tryz.prog 62 [.int n, .lits n1 l] out fun r ro => r = .bool (condB l n) ∧ ro = [] := by
  refine spec_body cx_ok kp74 od74 (fn := Tryz.f62) (by kernel_rfl) rfl (by kernel_rfl) rfl (by unfold FnOK; kernel_rfl) fun hok => ?_
  have hmx := le_max hok.2.1.1
  have hlen : (l.map (·.fact)).length = l.length := List.length_map ..
  refine LoopW.mk Nat (fun i => i ≤ l.length ∧ (List.range i).all (chkI (l.map (·.fact)) n) = true) (fun i => [(0, .int n), (1, .lits n1 l), (7, .lits n1 l), (8, .int (l.map tLit).length), (9, .int i)]) (fun _ => ⟨out, []⟩) (fun i => l.length - i) 0 ⟨Nat.zero_le _, rfl⟩ ⟨rfl, rfl⟩ fun i hI => ?_
  refine And.intro (fun h1 => ?_) fun h1 => ?_
  · have hi := lt_of_dec h1
    have hi' : i < (l.map (·.fact)).length := by rw [hlen]; exact hi
    have ha := atF_eq hi
    refine And.intro (by omega) (Exists.intro _ (And.intro (get_map hi) ?_))
    refine And.intro (fun h2 => ?_) fun h2 => ?_
    · exact Exists.intro [] (ret_bool (range_false hi' (by simp [chkI, ha]; simp at h2; omega)) rfl)
    · refine And.intro (fun h3 => ?_) fun h3 => ?_
      · exact Exists.intro [] (ret_bool (range_false hi' (by simp [chkI, ha]; simp at h2 h3; omega)) rfl)
      · refine And.intro (fun h4 => ?_) fun h4 => ?_
        · have h0 : 0 < i := by simp at h4; omega
          have hp := atF_eq (l := l) (i := i - 1) (by omega)
          refine And.intro (by omega) (And.intro (by omega) (And.intro (by omega) (Exists.intro _ (And.intro (get_pred hi h0) ?_))))
          refine And.intro (fun h5 => ?_) fun h5 => ?_
          · exact Exists.intro [] (ret_bool (range_false hi' (by simp [chkI, ha, hp]; simp at h2 h3 h5; omega)) rfl)
          · refine And.intro (by omega) (And.intro (by omega) ?_)
            exact Exists.intro (i + 1) (And.intro (by show l.length - (i + 1) < l.length - i; omega) (And.intro ⟨hi, range_step hI.2 (by simp [chkI, ha, hp]; simp at h2 h3 h5; omega)⟩ (And.intro rfl rfl)))
        · have h0 : i = 0 := by simp at h4; omega
          refine And.intro (by omega) (And.intro (by omega) ?_)
          exact Exists.intro (i + 1) (And.intro (by show l.length - (i + 1) < l.length - i; omega) (And.intro ⟨hi, range_step hI.2 (by simp [chkI, ha]; simp at h2 h3; omega)⟩ (And.intro rfl rfl)))
  · have hi : i = l.length := by have := hI.1; have := ge_of_dec h1; omega
    exact Exists.intro [] (ret_bool (by have := hI.2; rw [hi, ← hlen] at this; exact this) rfl)

theorem f83_spec (c : Int) (out : List Fr) : SpecP Tryz.prog 76 [.byte c] out fun r ro => r = .bool (letterB c) ∧ ro = [] := by
  refine spec_body cx_ok [] [] (fn := Tryz.f76) (by kernel_rfl) rfl (by kernel_rfl) rfl (by unfold FnOK; kernel_rfl) fun hok => ?_
  refine And.intro (fun h1 => ?_) fun h1 => ?_
  · refine And.intro (fun h2 => ?_) fun h2 => ?_
    · exact Exists.intro [] (ret_bool (by simp [letterB]; simp at h1 h2; omega) rfl)
    · refine And.intro (fun h3 => ?_) fun h3 => ?_
      · refine And.intro (fun h4 => ?_) fun h4 => ?_
        · exact Exists.intro [] (ret_bool (by simp [letterB]; simp at h1 h2 h3 h4; omega) rfl)
        · exact Exists.intro [] (ret_bool (by simp [letterB]; simp at h1 h2 h3 h4; omega) rfl)
      · exact Exists.intro [] (ret_bool (by simp [letterB]; simp at h1 h2 h3; omega) rfl)
  · refine And.intro (fun h3 => ?_) fun h3 => ?_
    · refine And.intro (fun h4 => ?_) fun h4 => ?_
      · exact Exists.intro [] (ret_bool (by simp [letterB]; simp at h1 h3 h4; omega) rfl)
      · exact Exists.intro [] (ret_bool (by simp [letterB]; simp at h1 h3 h4; omega) rfl)
    · exact Exists.intro [] (ret_bool (by simp [letterB]; simp at h1 h3; omega) rfl)


end Go.Fw
