/- Texts that lead to the law, part 13. -/
import Derived.Test.YtkccfpgnifdgjaaZI
import Derived.Test.YtkccfpgnifdgjaaZL

/- Functions that are run where the example is. -/
namespace Go.Fw
open Go Go.Proofs
set_option maxRecDepth 100000

def runTOd8 : Od := []
def runTKp8 : Kp := [(8, ([2, 6, 53, 54, 55], []))]
def runTOd28 : Od := [(8, [(0, .tree (.pure 0 (.pure 2 (.pure 3 (.pure 4 (.pure 5 (.fork 1 (.pure 6 (.last 7 (.last 8 .done []) [0, 2, 3, 4, 5, 6])) [2, 3, 4, 5] (.last 7 (.last 1 (.pure 6 (.last 8 .done [])) [2, 3, 4, 5]) [0, 2, 3, 4, 5]))))))))])]
def runTKp28 : Kp := []
def runTOd33 : Od := []
def runTKp33 : Kp := [(5, ([1, 3, 21, 22, 23], []))]
def runTOd64 : Od := []
def runTKp64 : Kp := []
def runTOd95 : Od := []
def runTKp95 : Kp := [(2, ([0, 1, 7, 8], []))]
def runTOd65 : Od := []
def runTKp65 : Kp := []
def runTOd42 : Od := []
def runTKp42 : Kp := [(4, ([2, 5, 6, 14, 15, 16], []))]
def runTOd43 : Od := [(1, [(0, .tree (.pure 0 (.pure 1 (.pure 2 (.pure 3 (.pure 4 (.pure 5 (.pure 6 (.pure 7 (.pure 8 (.pure 9 (.pure 10 (.pure 11 (.pure 12 (.pure 13 (.pure 14 (.pure 15 (.pure 16 .done))))))))))))))))))])]
def runTKp43 : Kp := []
def runTOd57 : Od := [(10, [(0, .tree (.pure 0 (.pure 1 (.pure 2 (.pure 3 (.pure 4 (.pure 5 (.pure 6 (.last 7 (.last 8 (.last 9 .done [2, 3]) [0, 2, 3]) [0, 2])))))))))])]
def runTKp57 : Kp := [(1, ([0, 13, 14], [])), (8, ([0, 42, 43, 44], [])), (13, ([0, 62, 63], [])), (20, ([0, 5, 62, 63, 81, 82], []))]
def runTOd79 : Od := []
def runTKp79 : Kp := []
def runTOd84 : Od := []
def runTKp84 : Kp := []
def runTOd104 : Od := []
def runTKp104 : Kp := [(2, ([0, 1, 7, 8], []))]
def runTOd85 : Od := []
def runTKp85 : Kp := []
def runTOd86 : Od := []
def runTKp86 : Kp := []
def runTOd89 : Od := [(0, [(0, .tree (.pure 0 (.pure 1 (.pure 2 (.pure 3 (.pure 4 (.pure 5 (.pure 6 (.pure 7 (.pure 8 (.pure 9 (.pure 10 (.fork 11 (.last 12 (.last 13 (.pure 14 .done) []) [0, 1, 2, 3, 4, 5, 6, 7, 8, 9, 10]) [0, 1, 2, 3, 4, 5, 6, 7] (.last 12 (.last 11 (.last 13 (.pure 14 .done) []) [0, 1, 2, 3, 4, 5, 6, 7]) [0, 1, 2, 3, 4, 5, 6, 7, 8, 9, 10]))))))))))))))]), (6, [(0, .tree (.pure 0 (.pure 1 (.pure 2 (.pure 3 (.pure 4 (.pure 5 (.pure 7 (.pure 8 (.pure 9 (.pure 10 (.pure 11 (.pure 12 (.fork 6 (.pure 14 (.last 13 (.pure 15 .done) [0, 1, 2, 3, 4, 5, 7, 8, 9, 14])) [0, 1, 2, 7, 8, 9, 10, 11, 12] (.last 13 (.last 6 (.pure 14 (.pure 15 .done)) [0, 1, 2, 7, 8, 9, 10, 11, 12]) [0, 1, 2, 3, 4, 5, 7, 8, 9])))))))))))))))]), (12, [(0, .tree (.pure 0 (.pure 1 (.pure 2 (.pure 3 (.pure 4 (.pure 5 (.pure 6 (.pure 7 (.pure 8 (.pure 9 (.pure 10 (.last 11 (.last 12 (.pure 13 (.last 14 .done [])) [0, 1, 2, 3, 5, 6]) [0, 1, 2, 3, 4, 5, 6, 7, 8, 9])))))))))))))]), (13, [(0, .tree (.pure 0 (.pure 1 (.pure 2 (.pure 3 (.pure 4 (.pure 5 (.pure 6 (.pure 7 (.pure 8 (.pure 9 (.pure 10 (.last 11 (.last 12 (.pure 13 (.last 14 .done [])) [0, 1, 2, 3, 5, 6]) [0, 1, 2, 3, 4, 5, 6, 7, 8, 9])))))))))))))])]
def runTKp89 : Kp := [(2, ([0, 1, 2, 6, 7, 35, 36, 37], [])), (8, ([0, 1, 2, 7, 10, 11, 66, 67, 68], [])), (16, ([0, 1, 7, 10, 11, 115, 116], [])), (20, ([0, 1, 7, 10, 11, 15, 16, 17, 115, 116, 131, 132, 133], [])), (25, ([0, 1, 7, 10, 11, 15, 16, 17, 115, 116, 149, 150, 151], []))]
def runTOd46 : Od := [(1, [(0, .tree (.pure 0 (.pure 1 (.pure 2 (.pure 3 (.pure 4 (.pure 5 (.pure 6 (.pure 7 (.pure 8 (.pure 9 (.pure 10 (.pure 11 (.pure 12 (.pure 13 (.pure 14 (.pure 15 (.pure 16 .done))))))))))))))))))])]
def runTKp46 : Kp := []
def runTOd80 : Od := [(1, [(0, .tree (.pure 0 (.pure 1 (.pure 2 (.pure 3 (.pure 4 (.pure 5 (.pure 6 (.pure 7 (.pure 8 (.pure 9 (.pure 10 (.pure 11 (.pure 12 (.pure 13 (.pure 14 (.pure 15 (.pure 16 (.pure 17 (.pure 18 (.pure 19 (.pure 20 (.pure 21 (.pure 22 (.pure 23 (.pure 24 (.pure 25 (.pure 26 (.pure 27 (.pure 28 (.pure 29 (.pure 30 (.pure 31 .done)))))))))))))))))))))))))))))))))])]
def runTKp80 : Kp := []
def runTOd87 : Od := []
def runTKp87 : Kp := [(1, ([0, 1, 16, 17, 18], [])), (4, ([0, 1, 4, 16, 17, 18, 24, 25, 26], [])), (9, ([0, 1, 4, 8, 9, 16, 17, 18, 24, 25, 26, 39, 40, 41], []))]
def runTOd88 : Od := []
def runTKp88 : Kp := [(2, ([0, 1, 4, 12, 13], [])), (6, ([0, 1, 4, 5, 12, 13, 23, 24], []))]
def runTOd11 : Od := []
def runTKp11 : Kp := [(13, ([5, 9, 36, 37], []))]
def runTOd35 : Od := [(28, [(0, .tree (.pure 0 (.pure 1 (.pure 2 (.pure 3 (.pure 4 (.pure 5 (.pure 6 (.pure 7 (.pure 8 (.pure 9 (.pure 10 (.pure 11 (.pure 12 (.pure 13 (.pure 14 (.pure 15 (.last 16 (.last 17 (.last 18 .done []) [0, 1, 2, 3, 4, 5, 6, 7, 8, 11]) [0, 1, 2, 3, 4, 5, 6, 7, 8, 9, 10, 11, 12, 13, 14]))))))))))))))))))]), (29, [(0, .tree (.pure 0 (.pure 1 (.pure 2 (.pure 3 (.pure 4 (.pure 5 (.pure 6 (.pure 7 (.pure 8 (.pure 9 (.pure 10 (.pure 11 (.pure 12 (.pure 13 (.pure 14 (.pure 15 (.last 16 (.last 17 (.last 18 .done []) [0, 1, 2, 3, 4, 5, 6, 7, 8, 11]) [0, 1, 2, 3, 4, 5, 6, 7, 8, 9, 10, 11, 12, 13, 14]))))))))))))))))))])]
def runTKp35 : Kp := [(5, ([4, 26, 27, 28], [])), (10, ([4, 7, 8, 26, 27, 28, 33, 34, 35], []))]
def runTOd69 : Od := []
def runTKp69 : Kp := []
def runTOd70 : Od := []
def runTKp70 : Kp := []
def runTOd36 : Od := [(13, [(0, .tree (.pure 0 (.pure 1 (.pure 2 (.pure 3 (.pure 4 (.pure 5 (.pure 6 (.pure 7 (.pure 8 (.pure 9 (.last 10 (.last 11 (.pure 12 (.pure 13 (.last 14 .done []))) [0, 1, 5, 6, 7]) [0, 1, 2, 3, 4, 5, 6]))))))))))))])]
def runTKp36 : Kp := [(2, ([0, 4], [])), (6, ([0, 4], []))]
def runTOd71 : Od := [(1, [(0, .tree (.pure 0 (.pure 1 (.pure 2 (.pure 3 (.pure 4 (.pure 5 (.pure 6 (.pure 7 (.pure 8 (.pure 9 .done)))))))))))]), (3, [(0, .tree (.pure 0 (.pure 1 (.pure 2 (.pure 3 (.pure 4 (.pure 5 (.pure 6 (.pure 7 (.pure 8 (.pure 9 (.pure 10 (.pure 11 .done)))))))))))))]), (9, [(0, .tree (.pure 0 (.pure 1 (.pure 2 (.pure 3 (.pure 4 (.pure 5 (.pure 6 (.pure 7 (.pure 8 (.pure 9 (.pure 10 .done))))))))))))]), (11, [(0, .tree (.pure 0 (.pure 1 (.pure 2 (.pure 3 (.pure 4 (.pure 5 (.pure 6 (.pure 7 (.pure 8 (.last 9 (.pure 10 (.last 11 .done [])) [1])))))))))))]), (18, [(0, .tree (.pure 0 (.pure 1 (.pure 2 (.pure 3 (.pure 4 (.pure 5 (.pure 6 (.pure 7 (.pure 8 (.pure 9 (.pure 10 (.last 11 (.pure 12 (.last 13 .done [])) [1, 2])))))))))))))]), (19, [(0, .tree (.pure 0 (.pure 1 (.pure 2 (.pure 3 (.pure 4 (.pure 5 (.pure 6 (.pure 7 (.pure 8 (.pure 9 (.pure 10 (.pure 11 (.pure 12 (.pure 13 (.pure 14 (.pure 15 (.pure 16 (.pure 17 (.pure 18 (.last 19 (.last 20 (.last 21 .done []) [0, 1, 2, 3, 4, 5, 6, 7, 8, 11, 15, 16]) [0, 1, 2, 3, 4, 5, 6, 7, 8, 9, 10, 11, 12, 13, 14])))))))))))))))))))))]), (22, [(0, .tree (.pure 0 (.pure 1 (.pure 2 (.pure 3 (.pure 4 (.pure 5 (.pure 6 (.pure 7 (.pure 8 (.pure 9 (.last 10 (.last 11 .done []) [0, 1, 2, 3, 4]))))))))))))])]
def runTKp71 : Kp := [(1, ([0], [])), (7, ([0, 3, 4, 5, 6], [])), (15, ([0, 3, 4, 5, 6, 7, 8], []))]
def runTOd72 : Od := [(2, [(0, .tree (.pure 0 (.pure 1 (.pure 2 (.pure 3 (.pure 4 (.pure 5 (.pure 6 (.pure 7 (.pure 8 (.pure 9 (.pure 10 (.pure 11 (.pure 12 .done))))))))))))))]), (3, [(0, .tree (.pure 0 (.pure 1 (.pure 2 (.pure 3 (.pure 4 (.pure 5 (.pure 6 (.pure 7 (.pure 8 (.pure 9 (.pure 10 (.pure 11 (.pure 12 (.pure 13 (.last 14 .done []))))))))))))))))])]
def runTKp72 : Kp := [(1, ([0], [])), (6, ([0, 3, 4, 51, 52, 53], []))]
def runTOd17 : Od := []
def runTKp17 : Kp := []
def runTOd44 : Od := [(23, [(0, .tree (.pure 0 (.pure 1 (.pure 2 (.pure 3 (.pure 4 (.pure 7 (.pure 8 (.pure 9 (.last 5 (.pure 6 (.last 10 (.pure 11 (.last 12 .done [])) [0, 6])) [0, 7, 8, 9]))))))))))]), (26, [(0, .tree (.pure 0 (.pure 1 (.pure 2 (.pure 3 (.pure 4 (.pure 5 (.pure 6 (.pure 7 (.pure 8 (.last 9 (.last 10 .done []) [1, 3, 4, 5])))))))))))])]
def runTKp44 : Kp := [(8, ([1, 2, 8, 9, 10, 39, 40], [])), (11, ([1, 2, 8, 9, 10, 11, 39, 40, 43, 44, 45], [])), (18, ([1, 2, 8, 9, 10, 11, 39, 40, 72, 73, 74], [])), (21, ([1, 2, 8, 9, 10, 11, 14, 39, 40, 72, 73, 74, 80, 81, 82], []))]
noncomputable def runT : InT := [(8, (Try.f8, (Try.f8.body.get!, (runTKp8, runTOd8)))), (28, (Try.f28, (Try.f28.body.get!, (runTKp28, runTOd28)))), (33, (Try.f33, (Try.f33.body.get!, (runTKp33, runTOd33)))), (64, (Try.f64, (Try.f64.body.get!, (runTKp64, runTOd64)))), (95, (Try.f95, (Try.f95.body.get!, (runTKp95, runTOd95)))), (65, (Try.f65, (Try.f65.body.get!, (runTKp65, runTOd65)))), (42, (Try.f42, (Try.f42.body.get!, (runTKp42, runTOd42)))), (43, (Try.f43, (Try.f43.body.get!, (runTKp43, runTOd43)))), (57, (Try.f57, (Try.f57.body.get!, (runTKp57, runTOd57)))), (79, (Try.f79, (Try.f79.body.get!, (runTKp79, runTOd79)))), (84, (Try.f84, (Try.f84.body.get!, (runTKp84, runTOd84)))), (104, (Try.f104, (Try.f104.body.get!, (runTKp104, runTOd104)))), (85, (Try.f85, (Try.f85.body.get!, (runTKp85, runTOd85)))), (86, (Try.f86, (Try.f86.body.get!, (runTKp86, runTOd86)))), (89, (Try.f89, (Try.f89.body.get!, (runTKp89, runTOd89)))), (46, (Try.f46, (Try.f46.body.get!, (runTKp46, runTOd46)))), (80, (Try.f80, (Try.f80.body.get!, (runTKp80, runTOd80)))), (87, (Try.f87, (Try.f87.body.get!, (runTKp87, runTOd87)))), (88, (Try.f88, (Try.f88.body.get!, (runTKp88, runTOd88)))), (11, (Try.f11, (Try.f11.body.get!, (runTKp11, runTOd11)))), (35, (Try.f35, (Try.f35.body.get!, (runTKp35, runTOd35)))), (69, (Try.f69, (Try.f69.body.get!, (runTKp69, runTOd69)))), (70, (Try.f70, (Try.f70.body.get!, (runTKp70, runTOd70)))), (36, (Try.f36, (Try.f36.body.get!, (runTKp36, runTOd36)))), (71, (Try.f71, (Try.f71.body.get!, (runTKp71, runTOd71)))), (72, (Try.f72, (Try.f72.body.get!, (runTKp72, runTOd72)))), (17, (Try.f17, (Try.f17.body.get!, (runTKp17, runTOd17)))), (44, (Try.f44, (Try.f44.body.get!, (runTKp44, runTOd44))))]
theorem runT_ok : InOK Try.prog runT :=
  InOK.cons (by kernel_rfl) rfl (by unfold FnOK; kernel_rfl) (by kernel_rfl) <|
  InOK.cons (by kernel_rfl) rfl (by unfold FnOK; kernel_rfl) (by kernel_rfl) <|
  InOK.cons (by kernel_rfl) rfl (by unfold FnOK; kernel_rfl) (by kernel_rfl) <|
  InOK.cons (by kernel_rfl) rfl (by unfold FnOK; kernel_rfl) (by kernel_rfl) <|
  InOK.cons (by kernel_rfl) rfl (by unfold FnOK; kernel_rfl) (by kernel_rfl) <|
  InOK.cons (by kernel_rfl) rfl (by unfold FnOK; kernel_rfl) (by kernel_rfl) <|
  InOK.cons (by kernel_rfl) rfl (by unfold FnOK; kernel_rfl) (by kernel_rfl) <|
  InOK.cons (by kernel_rfl) rfl (by unfold FnOK; kernel_rfl) (by kernel_rfl) <|
  InOK.cons (by kernel_rfl) rfl (by unfold FnOK; kernel_rfl) (by kernel_rfl) <|
  InOK.cons (by kernel_rfl) rfl (by unfold FnOK; kernel_rfl) (by kernel_rfl) <|
  InOK.cons (by kernel_rfl) rfl (by unfold FnOK; kernel_rfl) (by kernel_rfl) <|
  InOK.cons (by kernel_rfl) rfl (by unfold FnOK; kernel_rfl) (by kernel_rfl) <|
  InOK.cons (by kernel_rfl) rfl (by unfold FnOK; kernel_rfl) (by kernel_rfl) <|
  InOK.cons (by kernel_rfl) rfl (by unfold FnOK; kernel_rfl) (by kernel_rfl) <|
  InOK.cons (by kernel_rfl) rfl (by unfold FnOK; kernel_rfl) (by kernel_rfl) <|
  InOK.cons (by kernel_rfl) rfl (by unfold FnOK; kernel_rfl) (by kernel_rfl) <|
  InOK.cons (by kernel_rfl) rfl (by unfold FnOK; kernel_rfl) (by kernel_rfl) <|
  InOK.cons (by kernel_rfl) rfl (by unfold FnOK; kernel_rfl) (by kernel_rfl) <|
  InOK.cons (by kernel_rfl) rfl (by unfold FnOK; kernel_rfl) (by kernel_rfl) <|
  InOK.cons (by kernel_rfl) rfl (by unfold FnOK; kernel_rfl) (by kernel_rfl) <|
  InOK.cons (by kernel_rfl) rfl (by unfold FnOK; kernel_rfl) (by kernel_rfl) <|
  InOK.cons (by kernel_rfl) rfl (by unfold FnOK; kernel_rfl) (by kernel_rfl) <|
  InOK.cons (by kernel_rfl) rfl (by unfold FnOK; kernel_rfl) (by kernel_rfl) <|
  InOK.cons (by kernel_rfl) rfl (by unfold FnOK; kernel_rfl) (by kernel_rfl) <|
  InOK.cons (by kernel_rfl) rfl (by unfold FnOK; kernel_rfl) (by kernel_rfl) <|
  InOK.cons (by kernel_rfl) rfl (by unfold FnOK; kernel_rfl) (by kernel_rfl) <|
  InOK.cons (by kernel_rfl) rfl (by unfold FnOK; kernel_rfl) (by kernel_rfl) <|
  InOK.cons (by kernel_rfl) rfl (by unfold FnOK; kernel_rfl) (by kernel_rfl) <|
  InOK.nil

end Go.Fw
