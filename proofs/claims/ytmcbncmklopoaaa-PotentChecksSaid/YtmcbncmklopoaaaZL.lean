/- Texts that lead to the law, part 12. -/
import Derived.Test.YtmcbncmklopoaaaZK
import Derived.Test.YtmcbncmklopoaaaZI

/- Functions that are run where the example is. -/
namespace Go.Fw
open Go Go.Proofs
set_option maxRecDepth 100000

def runTOd36 : Od := []
def runTKp36 : Kp := []
def runTOd37 : Od := []
def runTKp37 : Kp := []
def runTOd38 : Od := []
def runTKp38 : Kp := []
def runTOd67 : Od := []
def runTKp67 : Kp := []
def runTOd68 : Od := []
def runTKp68 : Kp := []
def runTOd69 : Od := []
def runTKp69 : Kp := []
def runTOd70 : Od := []
def runTKp70 : Kp := []
def runTOd72 : Od := []
def runTKp72 : Kp := [(3, ([2, 3, 5, 17, 18, 19], [])), (13, ([8, 9, 55, 56, 57], []))]
def runTOd73 : Od := []
def runTKp73 : Kp := [(3, ([5, 12, 13, 14], []))]
def runTOd98 : Od := []
def runTKp98 : Kp := [(2, ([0, 1, 7, 8], []))]
def runTOd99 : Od := []
def runTKp99 : Kp := [(2, ([0, 1, 7, 8], []))]
def runTOd49 : Od := []
def runTKp49 : Kp := [(6, ([1, 3, 4, 38, 39, 40], [])), (14, ([3, 4, 57, 58, 59], [])), (20, ([3, 4, 57, 58, 59, 100, 101, 102], []))]
def runTOd51 : Od := []
def runTKp51 : Kp := [(3, ([3, 7, 8, 9], []))]
def runTOd66 : Od := []
def runTKp66 : Kp := [(2, ([0, 1, 7, 8, 9], []))]
def runTOd92 : Od := [(4, [(0, .tree (.pure 0 (.pure 1 (.pure 2 (.pure 3 (.pure 4 (.pure 5 (.pure 6 (.pure 7 (.pure 8 (.pure 9 (.pure 10 (.pure 11 (.pure 12 (.pure 13 (.pure 14 (.pure 15 (.pure 16 (.pure 17 (.pure 18 (.pure 19 (.pure 20 (.pure 21 (.pure 22 (.pure 23 .done)))))))))))))))))))))))))])]
def runTKp92 : Kp := [(2, ([0, 1, 7, 8, 9], []))]
def runTOd93 : Od := []
def runTKp93 : Kp := [(4, ([0, 19, 20], []))]
def runTOd50 : Od := []
def runTKp50 : Kp := []
def runTOd94 : Od := []
def runTKp94 : Kp := []
def runTOd103 : Od := []
def runTKp103 : Kp := [(2, ([0, 1, 7, 8], []))]
def runTOd104 : Od := []
def runTKp104 : Kp := []
def runTOd105 : Od := []
def runTKp105 : Kp := []
def runTOd116 : Od := []
def runTKp116 : Kp := []
def runTOd13 : Od := []
def runTKp13 : Kp := []
def runTOd25 : Od := []
def runTKp25 : Kp := []
def runTOd40 : Od := [(2, [(0, .tree (.pure 0 (.pure 1 (.pure 2 (.pure 3 (.pure 4 (.pure 5 (.pure 6 (.pure 7 (.pure 8 (.pure 9 (.pure 10 (.pure 11 (.pure 12 (.last 13 .done [])))))))))))))))]), (3, [(0, .tree (.pure 0 (.pure 1 (.pure 2 (.pure 3 (.pure 4 (.pure 5 (.pure 6 (.pure 7 (.pure 8 (.pure 9 (.pure 10 .done))))))))))))]), (7, [(0, .tree (.pure 0 (.pure 1 (.pure 2 (.pure 3 (.pure 4 (.pure 5 (.pure 6 (.pure 7 (.pure 8 (.pure 9 (.pure 10 (.pure 11 (.pure 12 (.last 13 (.last 14 (.last 15 (.pure 16 (.pure 17 (.last 18 .done []))) [0, 1, 2, 3, 4, 5, 6, 7, 11]) [0, 1, 2, 3, 4, 5, 6, 7, 8, 9, 10]) [0, 1, 2, 3, 4, 5, 6, 7, 8, 9, 10])))))))))))))))]), (30, [(0, .tree (.pure 0 (.pure 1 (.pure 2 (.pure 3 (.pure 4 (.pure 5 (.pure 6 (.pure 7 (.pure 8 (.pure 9 (.pure 10 (.pure 11 (.pure 12 (.pure 13 (.pure 14 (.pure 15 (.pure 16 .done))))))))))))))))))]), (31, [(0, .tree (.pure 0 (.pure 1 (.pure 2 (.pure 3 (.pure 4 (.pure 5 (.pure 6 (.pure 7 (.pure 8 (.pure 9 (.pure 10 (.pure 11 (.pure 12 (.pure 13 (.pure 14 (.pure 15 (.pure 16 (.pure 17 (.pure 18 (.pure 19 (.pure 20 (.pure 21 (.pure 22 (.pure 23 (.pure 24 (.last 25 (.pure 26 (.last 27 .done [])) [12, 19, 23])))))))))))))))))))))))))))]), (32, [(0, .tree (.pure 0 (.pure 1 (.pure 2 (.pure 3 (.pure 4 (.pure 5 (.pure 6 (.pure 7 (.pure 8 (.pure 9 (.pure 10 (.pure 11 (.pure 12 (.pure 13 (.pure 14 (.pure 15 (.pure 16 (.pure 17 (.pure 18 (.pure 19 (.pure 20 (.pure 21 (.pure 22 (.pure 23 (.pure 24 (.pure 25 (.pure 26 (.pure 27 (.last 28 (.pure 29 (.last 30 .done [])) [13, 20, 21, 25, 26]))))))))))))))))))))))))))))))]), (33, [(0, .tree (.pure 0 (.pure 1 (.pure 2 (.pure 3 (.pure 4 (.pure 5 (.pure 6 (.pure 7 (.pure 8 (.pure 9 (.pure 10 (.pure 11 (.pure 12 (.pure 13 (.pure 14 (.pure 15 (.pure 16 (.pure 17 (.pure 18 (.pure 19 (.pure 20 (.pure 21 (.pure 22 (.pure 23 (.pure 24 (.pure 25 (.pure 26 (.pure 27 (.last 28 (.pure 29 (.last 30 .done [])) [13, 20, 21, 25, 26]))))))))))))))))))))))))))))))]), (57, [(0, .tree (.pure 0 (.pure 1 (.pure 2 (.pure 3 (.pure 4 (.pure 5 (.pure 6 (.pure 7 (.pure 8 (.pure 9 (.pure 12 (.pure 13 (.pure 14 (.pure 15 (.pure 16 (.pure 17 (.pure 18 (.pure 19 (.pure 20 (.pure 21 (.pure 22 (.pure 23 (.pure 24 (.fork 10 (.fork 11 (.last 25 (.last 26 (.pure 27 (.pure 28 (.last 29 (.pure 30 (.pure 31 (.last 32 .done []))) [1, 12, 19, 23]))) [0, 1, 2, 3, 4, 5, 6, 12, 13, 14, 15, 19, 20, 21]) [0, 1, 2, 3, 4, 5, 6, 7, 8, 9, 12, 13, 14, 15, 16, 17, 18, 19, 20]) [0, 1, 2, 3, 4, 5, 12, 13, 14, 15, 16, 17, 18, 19, 20, 21, 22, 23, 24] (.last 25 (.last 11 (.last 26 (.pure 27 (.pure 28 (.last 29 (.pure 30 (.pure 31 (.last 32 .done []))) [1, 12, 19, 23]))) [0, 1, 2, 3, 4, 5, 6, 12, 13, 14, 15, 19, 20, 21]) [0, 1, 2, 3, 4, 5, 12, 13, 14, 15, 16, 17, 18, 19, 20, 21, 22, 23, 24]) [0, 1, 2, 3, 4, 5, 6, 7, 8, 9, 12, 13, 14, 15, 16, 17, 18, 19, 20])) [0, 1, 2, 3, 4, 5, 6, 7, 8, 12, 13, 14, 15, 16, 17, 18, 19, 20, 21, 22, 23, 24] (.last 25 (.last 10 (.last 11 (.last 26 (.pure 27 (.pure 28 (.last 29 (.pure 30 (.pure 31 (.last 32 .done []))) [1, 12, 19, 23]))) [0, 1, 2, 3, 4, 5, 6, 12, 13, 14, 15, 19, 20, 21]) [0, 1, 2, 3, 4, 5, 12, 13, 14, 15, 16, 17, 18, 19, 20, 21, 22, 23, 24]) [0, 1, 2, 3, 4, 5, 6, 7, 8, 12, 13, 14, 15, 16, 17, 18, 19, 20, 21, 22, 23, 24]) [0, 1, 2, 3, 4, 5, 6, 7, 8, 9, 12, 13, 14, 15, 16, 17, 18, 19, 20]))))))))))))))))))))))))))])]
def runTKp40 : Kp := [(6, ([1, 2, 5, 6, 62, 63], [])), (10, ([1, 2, 5, 6, 85, 86, 87], [])), (13, ([1, 2, 5, 6, 7, 85, 86, 87, 94, 95, 96], [])), (28, ([1, 5, 6, 11, 173, 174], [])), (41, ([5, 6, 318, 319, 320], [])), (46, ([5, 6, 347, 348, 349], [])), (52, ([5, 6, 17, 18, 19, 347, 348, 349, 360, 361], []))]
def runTOd41 : Od := [(5, [(0, .tree (.pure 0 (.pure 1 (.pure 2 (.pure 3 (.last 4 (.last 5 (.pure 6 (.last 7 .done [])) []) [0]))))))]), (16, [(0, .tree (.pure 0 (.pure 1 (.pure 2 (.pure 3 (.pure 4 (.pure 5 (.pure 6 (.pure 7 (.pure 8 (.pure 9 (.pure 10 (.pure 11 (.pure 12 (.pure 13 (.pure 14 (.pure 15 (.pure 16 (.pure 17 (.pure 18 (.pure 19 (.pure 20 (.pure 21 (.pure 22 (.pure 23 (.pure 24 (.pure 25 (.pure 26 (.last 27 .done [])))))))))))))))))))))))))))))]), (21, [(0, .tree (.pure 0 (.pure 1 (.pure 2 (.pure 3 (.pure 6 (.pure 7 (.pure 8 (.last 4 (.last 5 (.pure 9 (.last 10 .done [])) [6, 7, 8]) [0, 6, 7, 8])))))))))])]
def runTKp41 : Kp := [(13, ([1, 2, 4, 5, 6, 66, 67, 68], []))]
def runTOd43 : Od := []
def runTKp43 : Kp := []
def runTOd44 : Od := [(1, [(0, .tree (.pure 0 (.pure 1 (.pure 2 (.pure 3 (.pure 4 (.last 5 (.pure 6 (.pure 7 .done)) [0, 1])))))))])]
def runTKp44 : Kp := [(5, ([2, 3, 6, 7, 20, 21, 22], []))]
def runTOd45 : Od := []
def runTKp45 : Kp := [(3, ([3, 5, 10, 11, 12], []))]
def runTOd46 : Od := [(4, [(0, .tree (.pure 0 (.pure 1 (.pure 2 (.pure 4 (.pure 5 (.pure 6 (.pure 8 (.pure 9 (.pure 10 (.fork 3 (.pure 12 (.fork 7 (.pure 13 (.last 11 (.pure 14 .done) [0, 1, 2, 4, 5, 6, 12, 13])) [0, 1, 2, 8, 9, 10, 12] (.last 11 (.last 7 (.pure 13 (.pure 14 .done)) [0, 1, 2, 8, 9, 10, 12]) [0, 1, 2, 4, 5, 6, 12]))) [4, 5, 6, 8, 9, 10] (.fork 7 (.fork 3 (.pure 12 (.pure 13 (.last 11 (.pure 14 .done) [0, 1, 2, 4, 5, 6, 12, 13]))) [4, 5, 6, 8, 9, 10] (.last 11 (.last 3 (.pure 12 (.pure 13 (.pure 14 .done))) [4, 5, 6, 8, 9, 10]) [0, 1, 2, 4, 5, 6])) [0, 1, 2, 8, 9, 10] (.last 11 (.fork 3 (.pure 12 (.last 7 (.pure 13 (.pure 14 .done)) [0, 1, 2, 8, 9, 10, 12])) [4, 5, 6, 8, 9, 10] (.last 7 (.last 3 (.pure 12 (.pure 13 (.pure 14 .done))) [4, 5, 6, 8, 9, 10]) [0, 1, 2, 8, 9, 10])) [0, 1, 2, 4, 5, 6])))))))))))))]), (26, [(0, .tree (.pure 0 (.pure 1 (.pure 2 (.pure 3 (.pure 4 (.pure 5 (.pure 6 (.pure 7 (.pure 8 (.pure 9 (.pure 10 (.last 11 .done [])))))))))))))]), (28, [(0, .tree (.pure 0 (.pure 1 (.pure 2 (.pure 3 (.pure 4 (.pure 5 (.pure 6 (.pure 7 (.pure 8 (.pure 9 (.pure 10 (.last 11 .done [])))))))))))))]), (30, [(0, .tree (.pure 0 (.pure 1 (.pure 2 (.pure 3 (.pure 4 (.pure 5 (.pure 6 (.pure 7 (.pure 8 (.pure 9 (.pure 10 (.last 11 .done [])))))))))))))]), (32, [(0, .tree (.pure 0 (.pure 1 (.pure 2 (.pure 3 (.pure 4 (.pure 5 (.pure 6 (.pure 7 (.pure 8 (.pure 9 (.pure 10 (.last 11 .done [])))))))))))))])]
def runTKp46 : Kp := [(6, ([1, 3, 5, 8, 9, 10, 59, 60, 61], [])), (14, ([3, 5, 8, 9, 10, 81, 82, 83], [])), (19, ([3, 5, 8, 9, 10, 94, 95, 96], [])), (22, ([3, 5, 8, 9, 10, 15, 94, 95, 96, 103, 104, 105], [])), (36, ([8, 9, 165, 166, 167], []))]
def runTOd47 : Od := [(7, [(0, .tree (.pure 0 (.pure 1 (.pure 2 (.pure 3 (.pure 4 (.pure 5 (.pure 6 (.pure 7 (.pure 8 (.pure 9 (.last 10 (.last 11 (.last 12 .done []) [1, 4, 5, 6, 7]) [0, 4, 5, 6]))))))))))))]), (9, [(0, .tree (.pure 0 (.pure 1 (.pure 2 (.pure 4 (.pure 5 (.pure 6 (.pure 7 (.pure 8 (.last 3 (.last 9 (.pure 10 (.pure 11 .done)) []) [4, 5, 6, 7, 8]))))))))))])]
def runTKp47 : Kp := [(5, ([2, 3, 5, 9, 15, 16, 17], []))]
def runTOd59 : Od := []
def runTKp59 : Kp := [(1, ([0, 1], []))]
def runTOd60 : Od := []
def runTKp60 : Kp := []
def runTOd65 : Od := []
def runTKp65 : Kp := []
def runTOd71 : Od := []
def runTKp71 : Kp := [(2, ([9, 10, 11], []))]
def runTOd74 : Od := []
def runTKp74 : Kp := []
def runTOd75 : Od := [(5, [(0, .tree (.pure 0 (.pure 1 (.pure 2 (.pure 3 (.pure 5 (.pure 6 (.pure 7 (.pure 8 (.pure 9 (.pure 10 (.pure 11 (.last 4 (.last 12 (.pure 13 (.last 14 .done [])) [0, 1, 5, 6, 7, 8]) [0, 1, 5, 6, 7, 8, 9, 10, 11])))))))))))))])]
def runTKp75 : Kp := [(3, ([0, 1, 5, 25, 26], [])), (8, ([0, 1, 5, 50, 51, 52], [])), (13, ([0, 1, 5, 9, 50, 51, 52, 71, 72, 73], []))]
def runTOd76 : Od := [(12, [(0, .tree (.pure 0 (.pure 1 (.pure 2 (.pure 3 (.pure 4 (.pure 5 (.pure 6 (.pure 7 (.pure 8 (.pure 9 (.pure 11 (.pure 12 (.pure 13 (.pure 14 (.pure 15 (.pure 16 (.pure 17 (.pure 18 (.pure 19 (.pure 20 (.fork 10 (.fork 21 (.fork 22 (.last 23 (.last 24 (.last 25 .done []) [11, 12, 13, 16, 17, 18]) [0, 1, 2, 3, 4, 5, 6, 7, 8, 9, 11, 12, 13, 14, 15, 16, 17, 18, 19, 20]) [0, 1, 2, 3, 4, 5, 6, 7, 8, 9, 11, 12, 13, 14, 15, 16, 17, 18, 19, 20] (.last 23 (.last 22 (.last 24 (.last 25 .done []) [11, 12, 13, 16, 17, 18]) [0, 1, 2, 3, 4, 5, 6, 7, 8, 9, 11, 12, 13, 14, 15, 16, 17, 18, 19, 20]) [0, 1, 2, 3, 4, 5, 6, 7, 8, 9, 11, 12, 13, 14, 15, 16, 17, 18, 19, 20])) [0, 1, 2, 5, 6, 7, 11, 12, 16, 17] (.fork 22 (.fork 21 (.last 23 (.last 24 (.last 25 .done []) [11, 12, 13, 16, 17, 18]) [0, 1, 2, 3, 4, 5, 6, 7, 8, 9, 11, 12, 13, 14, 15, 16, 17, 18, 19, 20]) [0, 1, 2, 5, 6, 7, 11, 12, 16, 17] (.last 23 (.last 21 (.last 24 (.last 25 .done []) [11, 12, 13, 16, 17, 18]) [0, 1, 2, 5, 6, 7, 11, 12, 16, 17]) [0, 1, 2, 3, 4, 5, 6, 7, 8, 9, 11, 12, 13, 14, 15, 16, 17, 18, 19, 20])) [0, 1, 2, 3, 4, 5, 6, 7, 8, 9, 11, 12, 13, 14, 15, 16, 17, 18, 19, 20] (.last 23 (.fork 21 (.last 22 (.last 24 (.last 25 .done []) [11, 12, 13, 16, 17, 18]) [0, 1, 2, 3, 4, 5, 6, 7, 8, 9, 11, 12, 13, 14, 15, 16, 17, 18, 19, 20]) [0, 1, 2, 5, 6, 7, 11, 12, 16, 17] (.last 22 (.last 21 (.last 24 (.last 25 .done []) [11, 12, 13, 16, 17, 18]) [0, 1, 2, 5, 6, 7, 11, 12, 16, 17]) [0, 1, 2, 3, 4, 5, 6, 7, 8, 9, 11, 12, 13, 14, 15, 16, 17, 18, 19, 20])) [0, 1, 2, 3, 4, 5, 6, 7, 8, 9, 11, 12, 13, 14, 15, 16, 17, 18, 19, 20]))) [0, 1, 5, 6, 11, 12, 13, 14, 15, 16, 17, 18, 19, 20] (.fork 22 (.fork 10 (.fork 21 (.last 23 (.last 24 (.last 25 .done []) [11, 12, 13, 16, 17, 18]) [0, 1, 2, 3, 4, 5, 6, 7, 8, 9, 11, 12, 13, 14, 15, 16, 17, 18, 19, 20]) [0, 1, 2, 5, 6, 7, 11, 12, 16, 17] (.last 23 (.last 21 (.last 24 (.last 25 .done []) [11, 12, 13, 16, 17, 18]) [0, 1, 2, 5, 6, 7, 11, 12, 16, 17]) [0, 1, 2, 3, 4, 5, 6, 7, 8, 9, 11, 12, 13, 14, 15, 16, 17, 18, 19, 20])) [0, 1, 5, 6, 11, 12, 13, 14, 15, 16, 17, 18, 19, 20] (.last 23 (.last 10 (.last 21 (.last 24 (.last 25 .done []) [11, 12, 13, 16, 17, 18]) [0, 1, 2, 5, 6, 7, 11, 12, 16, 17]) [0, 1, 5, 6, 11, 12, 13, 14, 15, 16, 17, 18, 19, 20]) [0, 1, 2, 3, 4, 5, 6, 7, 8, 9, 11, 12, 13, 14, 15, 16, 17, 18, 19, 20])) [0, 1, 2, 3, 4, 5, 6, 7, 8, 9, 11, 12, 13, 14, 15, 16, 17, 18, 19, 20] (.last 23 (.fork 10 (.fork 21 (.last 22 (.last 24 (.last 25 .done []) [11, 12, 13, 16, 17, 18]) [0, 1, 2, 3, 4, 5, 6, 7, 8, 9, 11, 12, 13, 14, 15, 16, 17, 18, 19, 20]) [0, 1, 2, 5, 6, 7, 11, 12, 16, 17] (.last 22 (.last 21 (.last 24 (.last 25 .done []) [11, 12, 13, 16, 17, 18]) [0, 1, 2, 5, 6, 7, 11, 12, 16, 17]) [0, 1, 2, 3, 4, 5, 6, 7, 8, 9, 11, 12, 13, 14, 15, 16, 17, 18, 19, 20])) [0, 1, 5, 6, 11, 12, 13, 14, 15, 16, 17, 18, 19, 20] (.last 22 (.last 10 (.last 21 (.last 24 (.last 25 .done []) [11, 12, 13, 16, 17, 18]) [0, 1, 2, 5, 6, 7, 11, 12, 16, 17]) [0, 1, 5, 6, 11, 12, 13, 14, 15, 16, 17, 18, 19, 20]) [0, 1, 2, 3, 4, 5, 6, 7, 8, 9, 11, 12, 13, 14, 15, 16, 17, 18, 19, 20])) [0, 1, 2, 3, 4, 5, 6, 7, 8, 9, 11, 12, 13, 14, 15, 16, 17, 18, 19, 20]))))))))))))))))))))))))]), (13, [(0, .tree (.pure 0 (.pure 1 (.last 2 (.pure 3 (.pure 4 (.pure 5 (.pure 6 (.pure 7 (.pure 8 (.pure 9 (.pure 10 (.pure 11 (.pure 12 (.pure 13 (.pure 14 (.pure 15 (.pure 16 (.pure 17 (.pure 18 (.pure 19 (.pure 20 (.pure 21 (.pure 22 (.pure 23 (.pure 24 .done)))))))))))))))))))))) []))))])]
def runTKp76 : Kp := [(1, ([0, 1, 4], [])), (5, ([0, 1, 4, 5, 29, 30, 31], []))]
def runTOd77 : Od := []
def runTKp77 : Kp := [(3, ([0, 1, 4, 5, 14, 15], []))]
def runTOd78 : Od := [(6, [(0, .tree (.pure 0 (.pure 1 (.pure 2 (.pure 3 (.pure 4 (.pure 5 (.pure 6 (.pure 7 (.pure 8 (.pure 9 (.pure 11 (.pure 12 (.pure 13 (.pure 14 (.pure 15 (.pure 16 (.pure 17 (.pure 18 (.pure 19 (.pure 20 (.pure 21 (.last 10 (.last 22 (.pure 23 (.last 24 (.last 25 (.last 26 .done []) [1, 2, 3, 4, 5, 6, 11, 12, 13, 14, 15, 18, 19]) [0, 1, 2, 3, 4, 5, 8, 9, 11, 12, 13, 14, 15, 16, 18, 19, 20])) [0, 1, 2, 3, 4, 5, 6, 7, 11, 12, 13, 14]) [0, 1, 2, 3, 4, 5, 6, 7, 11, 12, 13, 14, 15, 16, 17, 18, 19, 20, 21])))))))))))))))))))))))])]
def runTKp78 : Kp := [(3, ([0, 1, 2, 7, 17, 18], []))]
def runTOd79 : Od := [(4, [(0, .tree (.pure 0 (.pure 1 (.pure 2 (.pure 3 (.pure 4 (.pure 5 (.pure 6 (.pure 7 (.pure 8 (.pure 9 (.pure 10 (.pure 11 (.pure 12 (.pure 13 (.pure 14 .done))))))))))))))))])]
def runTKp79 : Kp := [(2, ([0, 2, 23, 24], [])), (6, ([0, 2, 3, 23, 24, 45, 46], []))]
def runTOd80 : Od := []
def runTKp80 : Kp := []
def runTOd81 : Od := []
def runTKp81 : Kp := []
def runTOd82 : Od := []
def runTKp82 : Kp := [(3, ([0, 1, 7, 14, 15, 16], [])), (12, ([1, 7, 10, 29, 30, 31], []))]
def runTOd83 : Od := []
def runTKp83 : Kp := []
def runTOd84 : Od := []
def runTKp84 : Kp := []
def runTOd85 : Od := []
def runTKp85 : Kp := []
def runTOd86 : Od := []
def runTKp86 : Kp := [(3, ([1, 5, 11, 12, 13], []))]
def runTOd87 : Od := []
def runTKp87 : Kp := [(3, ([2, 7, 13, 14, 15], []))]
def runTOd88 : Od := []
def runTKp88 : Kp := []
def runTOd89 : Od := []
def runTKp89 : Kp := []
def runTOd90 : Od := []
def runTKp90 : Kp := []
def runTOd91 : Od := []
def runTKp91 : Kp := []
def runTOd101 : Od := []
def runTKp101 : Kp := []
def runTOd102 : Od := [(6, [(0, .tree (.pure 0 (.pure 1 (.pure 2 (.pure 3 (.pure 4 (.pure 5 (.pure 6 (.pure 7 (.last 8 .done []))))))))))]), (17, [(0, .tree (.pure 0 (.pure 1 (.pure 2 (.pure 3 (.pure 4 (.pure 5 (.pure 6 (.pure 7 (.pure 8 (.last 9 (.pure 10 (.pure 11 (.last 12 .done []))) [5, 7])))))))))))])]
def runTKp102 : Kp := [(4, ([1, 3, 4, 6, 8, 27, 28], [])), (11, ([1, 3, 4, 6, 10, 11, 48, 49, 50], []))]
def runTOd115 : Od := [(4, [(0, .tree (.pure 0 (.pure 1 (.pure 2 (.pure 3 (.pure 4 (.pure 5 (.pure 6 (.pure 7 (.pure 8 (.pure 9 (.pure 10 (.pure 11 (.pure 12 (.pure 13 (.pure 14 (.pure 15 (.last 16 (.pure 17 (.last 18 .done [])) [0, 1, 12]))))))))))))))))))])]
def runTKp115 : Kp := [(2, ([0, 2, 3, 4, 6, 13, 14], []))]
noncomputable def runT : InT := [(36, (Try.f36, (Try.f36.body.get!, (runTKp36, runTOd36)))), (37, (Try.f37, (Try.f37.body.get!, (runTKp37, runTOd37)))), (38, (Try.f38, (Try.f38.body.get!, (runTKp38, runTOd38)))), (67, (Try.f67, (Try.f67.body.get!, (runTKp67, runTOd67)))), (68, (Try.f68, (Try.f68.body.get!, (runTKp68, runTOd68)))), (69, (Try.f69, (Try.f69.body.get!, (runTKp69, runTOd69)))), (70, (Try.f70, (Try.f70.body.get!, (runTKp70, runTOd70)))), (72, (Try.f72, (Try.f72.body.get!, (runTKp72, runTOd72)))), (73, (Try.f73, (Try.f73.body.get!, (runTKp73, runTOd73)))), (98, (Try.f98, (Try.f98.body.get!, (runTKp98, runTOd98)))), (99, (Try.f99, (Try.f99.body.get!, (runTKp99, runTOd99)))), (49, (Try.f49, (Try.f49.body.get!, (runTKp49, runTOd49)))), (51, (Try.f51, (Try.f51.body.get!, (runTKp51, runTOd51)))), (66, (Try.f66, (Try.f66.body.get!, (runTKp66, runTOd66)))), (92, (Try.f92, (Try.f92.body.get!, (runTKp92, runTOd92)))), (93, (Try.f93, (Try.f93.body.get!, (runTKp93, runTOd93)))), (50, (Try.f50, (Try.f50.body.get!, (runTKp50, runTOd50)))), (94, (Try.f94, (Try.f94.body.get!, (runTKp94, runTOd94)))), (103, (Try.f103, (Try.f103.body.get!, (runTKp103, runTOd103)))), (104, (Try.f104, (Try.f104.body.get!, (runTKp104, runTOd104)))), (105, (Try.f105, (Try.f105.body.get!, (runTKp105, runTOd105)))), (116, (Try.f116, (Try.f116.body.get!, (runTKp116, runTOd116)))), (13, (Try.f13, (Try.f13.body.get!, (runTKp13, runTOd13)))), (25, (Try.f25, (Try.f25.body.get!, (runTKp25, runTOd25)))), (40, (Try.f40, (Try.f40.body.get!, (runTKp40, runTOd40)))), (41, (Try.f41, (Try.f41.body.get!, (runTKp41, runTOd41)))), (43, (Try.f43, (Try.f43.body.get!, (runTKp43, runTOd43)))), (44, (Try.f44, (Try.f44.body.get!, (runTKp44, runTOd44)))), (45, (Try.f45, (Try.f45.body.get!, (runTKp45, runTOd45)))), (46, (Try.f46, (Try.f46.body.get!, (runTKp46, runTOd46)))), (47, (Try.f47, (Try.f47.body.get!, (runTKp47, runTOd47)))), (59, (Try.f59, (Try.f59.body.get!, (runTKp59, runTOd59)))), (60, (Try.f60, (Try.f60.body.get!, (runTKp60, runTOd60)))), (65, (Try.f65, (Try.f65.body.get!, (runTKp65, runTOd65)))), (71, (Try.f71, (Try.f71.body.get!, (runTKp71, runTOd71)))), (74, (Try.f74, (Try.f74.body.get!, (runTKp74, runTOd74)))), (75, (Try.f75, (Try.f75.body.get!, (runTKp75, runTOd75)))), (76, (Try.f76, (Try.f76.body.get!, (runTKp76, runTOd76)))), (77, (Try.f77, (Try.f77.body.get!, (runTKp77, runTOd77)))), (78, (Try.f78, (Try.f78.body.get!, (runTKp78, runTOd78)))), (79, (Try.f79, (Try.f79.body.get!, (runTKp79, runTOd79)))), (80, (Try.f80, (Try.f80.body.get!, (runTKp80, runTOd80)))), (81, (Try.f81, (Try.f81.body.get!, (runTKp81, runTOd81)))), (82, (Try.f82, (Try.f82.body.get!, (runTKp82, runTOd82)))), (83, (Try.f83, (Try.f83.body.get!, (runTKp83, runTOd83)))), (84, (Try.f84, (Try.f84.body.get!, (runTKp84, runTOd84)))), (85, (Try.f85, (Try.f85.body.get!, (runTKp85, runTOd85)))), (86, (Try.f86, (Try.f86.body.get!, (runTKp86, runTOd86)))), (87, (Try.f87, (Try.f87.body.get!, (runTKp87, runTOd87)))), (88, (Try.f88, (Try.f88.body.get!, (runTKp88, runTOd88)))), (89, (Try.f89, (Try.f89.body.get!, (runTKp89, runTOd89)))), (90, (Try.f90, (Try.f90.body.get!, (runTKp90, runTOd90)))), (91, (Try.f91, (Try.f91.body.get!, (runTKp91, runTOd91)))), (101, (Try.f101, (Try.f101.body.get!, (runTKp101, runTOd101)))), (102, (Try.f102, (Try.f102.body.get!, (runTKp102, runTOd102)))), (115, (Try.f115, (Try.f115.body.get!, (runTKp115, runTOd115))))]
theorem runT_ok : InOK Try.prog runT :=
  InOK.cons (by kernel_rfl) rfl (by unfold FnOK; kernel_rfl) (by kernel_rfl) <|
  InOK.cons (by kernel_rfl) rfl (by unfold FnOK; kernel_rfl) (by kernel_rfl) <|
  InOK.cons (by kernel_rfl) rfl (by unfold FnOK; kernel_rfl) (by kernel_rfl) <|
  InOK.cons (by kernel_rfl) rfl (by unfold FnOK; kernel_rfl) (by kernel_rfl) <|
  InOK.cons (by kernel_rfl) rfl (by unfold FnOK; kernel_rfl) (by kernel_rfl) <|
  InOK.cons (by kernel_rfl) rfl (by unfold FnOK; kernel_rfl) (by kernel_rfl) <|
  InOK.cons (by kernel_rfl) rfl (by unfold FnOK; kernel_rfl) (by kernel_rfl) <|
  InOK.cons (by kernel_rfl) rfl (by unfold FnOK; kernel_rfl) (by kernel_rfl) <|
  InOK.cons (by kernel_rfl) rfl (by unfold FnOK; kernel_rfl) (by kernel_rfl) <|
  InOK.cons (by kernel_rfl) rfl (by unfold FnOK; kernel_rfl) (by kernel_rfl) <|
  InOK.cons (by kernel_rfl) rfl (by unfold FnOK; kernel_rfl) (by kernel_rfl) <|
  InOK.cons (by kernel_rfl) rfl (by unfold FnOK; kernel_rfl) (by kernel_rfl) <|
  InOK.cons (by kernel_rfl) rfl (by unfold FnOK; kernel_rfl) (by kernel_rfl) <|
  InOK.cons (by kernel_rfl) rfl (by unfold FnOK; kernel_rfl) (by kernel_rfl) <|
  InOK.cons (by kernel_rfl) rfl (by unfold FnOK; kernel_rfl) (by kernel_rfl) <|
  InOK.cons (by kernel_rfl) rfl (by unfold FnOK; kernel_rfl) (by kernel_rfl) <|
  InOK.cons (by kernel_rfl) rfl (by unfold FnOK; kernel_rfl) (by kernel_rfl) <|
  InOK.cons (by kernel_rfl) rfl (by unfold FnOK; kernel_rfl) (by kernel_rfl) <|
  InOK.cons (by kernel_rfl) rfl (by unfold FnOK; kernel_rfl) (by kernel_rfl) <|
  InOK.cons (by kernel_rfl) rfl (by unfold FnOK; kernel_rfl) (by kernel_rfl) <|
  InOK.cons (by kernel_rfl) rfl (by unfold FnOK; kernel_rfl) (by kernel_rfl) <|
  InOK.cons (by kernel_rfl) rfl (by unfold FnOK; kernel_rfl) (by kernel_rfl) <|
  InOK.cons (by kernel_rfl) rfl (by unfold FnOK; kernel_rfl) (by kernel_rfl) <|
  InOK.cons (by kernel_rfl) rfl (by unfold FnOK; kernel_rfl) (by kernel_rfl) <|
  InOK.cons (by kernel_rfl) rfl (by unfold FnOK; kernel_rfl) (by kernel_rfl) <|
  InOK.cons (by kernel_rfl) rfl (by unfold FnOK; kernel_rfl) (by kernel_rfl) <|
  InOK.cons (by kernel_rfl) rfl (by unfold FnOK; kernel_rfl) (by kernel_rfl) <|
  InOK.cons (by kernel_rfl) rfl (by unfold FnOK; kernel_rfl) (by kernel_rfl) <|
  InOK.cons (by kernel_rfl) rfl (by unfold FnOK; kernel_rfl) (by kernel_rfl) <|
  InOK.cons (by kernel_rfl) rfl (by unfold FnOK; kernel_rfl) (by kernel_rfl) <|
  InOK.cons (by kernel_rfl) rfl (by unfold FnOK; kernel_rfl) (by kernel_rfl) <|
  InOK.cons (by kernel_rfl) rfl (by unfold FnOK; kernel_rfl) (by kernel_rfl) <|
  InOK.cons (by kernel_rfl) rfl (by unfold FnOK; kernel_rfl) (by kernel_rfl) <|
  InOK.cons (by kernel_rfl) rfl (by unfold FnOK; kernel_rfl) (by kernel_rfl) <|
  InOK.cons (by kernel_rfl) rfl (by unfold FnOK; kernel_rfl) (by kernel_rfl) <|
  InOK.cons (by kernel_rfl) rfl (by unfold FnOK; kernel_rfl) (by kernel_rfl) <|
  InOK.cons (by kernel_rfl) rfl (by unfold FnOK; kernel_rfl) (by kernel_rfl) <|
  InOK.cons (by kernel_rfl) rfl (by unfold FnOK; kernel_rfl) (by kernel_rfl) <|
  InOK.cons (by kernel_rfl) rfl (by unfold FnOK; kernel_rfl) (by kernel_rfl) <|
  InOK.cons (by kernel_rfl) rfl (by unfold FnOK; kernel_rfl) (by kernel_rfl) <|
  InOK.cons (by kernel_rfl) rfl (by unfold FnOK; kernel_rfl) (by kernel_rfl) <|
  InOK.cons (by kernel_rfl) rfl (by unfold FnOK; kernel_rfl) (by kernel_rfl) <|
  InOK.cons (by kernel_rfl) rfl (by unfold FnOK; kernel_rfl) (by kernel_rfl) <|
  InOK.cons (by kernel_rfl) rfl (by unfold FnOK; kernel_rfl) (by kernel_rfl) <|
  InOK.cons (by kernel_rfl) rfl (by unfold FnOK; kernel_rfl) (by kernel_rfl) <|
  InOK.cons (by kernel_rfl) rfl (by unfold FnOK; kernel_rfl) (by kernel_rfl) <|
  InOK.cons (by kernel_rfl) rfl (by unfold FnOK; kernel_rfl) (by kernel_rfl) <|
  InOK.cons (by kernel_rfl) rfl (by unfold FnOK; kernel_rfl) (by kernel_rfl) <|
  InOK.cons (by kernel_rfl) rfl (by unfold FnOK; kernel_rfl) (by kernel_rfl) <|
  InOK.cons (by kernel_rfl) rfl (by unfold FnOK; kernel_rfl) (by kernel_rfl) <|
  InOK.cons (by kernel_rfl) rfl (by unfold FnOK; kernel_rfl) (by kernel_rfl) <|
  InOK.cons (by kernel_rfl) rfl (by unfold FnOK; kernel_rfl) (by kernel_rfl) <|
  InOK.cons (by kernel_rfl) rfl (by unfold FnOK; kernel_rfl) (by kernel_rfl) <|
  InOK.cons (by kernel_rfl) rfl (by unfold FnOK; kernel_rfl) (by kernel_rfl) <|
  InOK.cons (by kernel_rfl) rfl (by unfold FnOK; kernel_rfl) (by kernel_rfl) <|
  InOK.cons (by kernel_rfl) rfl (by unfold FnOK; kernel_rfl) (by kernel_rfl) <|
  InOK.nil

def cxr : Ctx := { cxn with grd := [(107, 1)] }
theorem cxr_ok : cxr.OK Try.prog := ⟨cx_ok.mixed, cx_ok.tys, cx_ok.eqs, cx_ok.exts, cx_ok.srt⟩
/-- Sums and differences with a carry. -/
def runX : ExtE := fun f vs => match f, vs with
  | 97, [.int .u64 a, .int .u64 b, .int .u64 c] => okIf (decide (0 ≤ a) && (decide (0 ≤ b) && (decide (0 ≤ c) && decide (c ≤ 1)))) (some (.tup [.u64 ((a + b + c) % 18446744073709551616), .u64 ((a + b + c) / 18446744073709551616)]))
  | 112, [.int .u64 a, .int .u64 b, .int .u64 c] => okIf (decide (0 ≤ a) && (decide (a < 18446744073709551616) && (decide (0 ≤ b) && (decide (b < 18446744073709551616) && (decide (0 ≤ c) && decide (c ≤ 1)))))) (some (.tup [.u64 ((a - b - c) % 18446744073709551616), .u64 (if a < b + c then 1 else 0)]))
  | _, _ => none
theorem runX_ok : ExtOK Try.prog runX := by
  intro f vs y h
  unfold runX at h
  split at h
  · obtain ⟨hf, h⟩ := okIf_some h
    simp only [Bool.and_eq_true, decide_eq_true_eq] at hf
    cases h
    exact add64 hf.1 hf.2.1 hf.2.2
  · obtain ⟨hf, h⟩ := okIf_some h
    simp only [Bool.and_eq_true, decide_eq_true_eq] at hf
    cases h
    exact sub64 ⟨hf.1, hf.2.1⟩ ⟨hf.2.2.1, hf.2.2.2.1⟩ hf.2.2.2.2
  · cases h

/-- The contract of exact, where its numbers are small. -/
def runO : OrcE := fun f args => match Nat.beq f 100 with
  | false => none
  | true => match args with
    | [x0, x1, x2, x3, x4] => match asInt x0, asInt x1, asInt x2, asInt x3, asInt x4 with
      | some p0, some p1, some p2, some p3, some p4 => okIf (kEq p0.1 .i64 && (kEq p1.1 .i64 && (kEq p2.1 .i64 && (kEq p3.1 .i64 && (kEq p4.1 .i64 && (smI p0.2 && (smI p1.2 && (smI p2.2 && (smI p3.2 && (leI 1 p4.2 && (leI p4.2 4611686018427387904 &&
          (smI (p0.2 * p1.2 - p2.2 * p3.2) && eqI (p0.2 * p1.2 - p2.2 * p3.2) ((p0.2 * p1.2 - p2.2 * p3.2) / p4.2 * p4.2)))))))))))))
          (some (.t (.v (.int .i64 ((p0.2 * p1.2 - p2.2 * p3.2) / p4.2))), []))
      | _, _, _, _, _ => none
    | _ => none
where smI (n : Int) : Bool := leI (-4611686018427387904) n && leI n 4611686018427387904
theorem asInt_inv {x : LV} {p : IntKind × Int} (h : asInt x = some p) : x = .t (.v (.int p.1 p.2)) := by
  unfold asInt at h
  split at h
  · cases h; rfl
  · cases h
theorem runO_ok : OrcOK Try.prog runO := by
  intro f args r ro h _ out
  unfold runO at h
  split at h
  · cases h
  rename_i hf
  have hf := Nat.eq_of_beq_eq_true hf
  subst hf
  split at h
  rotate_left
  · cases h
  rename_i x0 x1 x2 x3 x4
  split at h
  rotate_left
  · cases h
  rename_i p0 p1 p2 p3 p4 h0 h1 h2 h3 h4
  obtain ⟨hc, h⟩ := okIf_some h
  simp only [Bool.and_eq_true, runO.smI, leI_eq, eqI_eq, decide_eq_true_eq, beq_iff_eq] at hc
  obtain ⟨k0, k1, k2, k3, k4, c0, c1, c2, c3, c4, c5, c6, c7⟩ := hc
  rw [asInt_inv h0, asInt_inv h1, asInt_inv h2, asInt_inv h3, asInt_inv h4, kEq_eq k0, kEq_eq k1, kEq_eq k2, kEq_eq k3, kEq_eq k4]
  cases h
  exact f100_spec _ _ _ _ _ c0 c1 c2 c3 ⟨by omega, c5⟩ _ c7 c6 out

end Go.Fw
