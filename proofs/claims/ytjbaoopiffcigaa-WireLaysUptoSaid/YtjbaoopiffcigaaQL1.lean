/- Layer 25: the context of the evaluator. Conditions: none. -/
import Derived.Test.YtjbaoopiffcigaaQE25
import Derived.Test.YtjbaoopiffcigaaProg
import Derived.KernelRfl
set_option linter.unusedVariables false
set_option maxRecDepth 100000
namespace Go.L25
open Go Go.Eng Go.Proofs
def annT : Nat → Ann
  | 2 => { keep := [(0, [])], loops := [] }
  | 3 => { keep := [(0, [1]), (1, [1, 9]), (2, [2]), (3, [1, 3, 4]), (4, [3, 4, 5, 6]), (5, [2])], loops := [] }
  | 4 => { keep := [(0, [1]), (1, [1, 13]), (2, [2]), (3, [1, 3, 4]), (4, [1, 3, 4, 5, 6]), (5, [1, 3, 4, 5, 6, 7, 8]), (6, [1, 3, 4, 5, 6, 7, 8, 9, 10]), (7, [2])], loops := [] }
  | 5 => { keep := [(0, [1]), (1, [1, 11]), (2, [2]), (3, [3, 4]), (4, [3, 4, 19]), (5, [2]), (6, [3, 5, 6]), (7, [3, 6, 7, 8]), (8, [2])], loops := [] }
  | 6 => { keep := [(0, [1]), (1, [1, 16]), (2, [2]), (3, [1, 3, 4]), (4, [1, 3, 4, 24]), (5, [2]), (6, [1, 3, 5, 6]), (7, [1, 3, 47]), (8, [2]), (9, [1, 7, 8]), (10, [1, 7, 8, 55]), (11, [2]), (12, [1, 7, 9, 10, 11]), (13, [1, 7, 10, 11, 12, 13]), (14, [2])], loops := [] }
  | 7 => { keep := [(0, [1, 2]), (1, [1, 2]), (2, [1, 2, 5]), (3, [1, 2, 39]), (4, [4]), (5, [1, 2, 6]), (6, [1, 2, 6, 45]), (7, [1, 2, 6]), (8, [1, 2, 6, 55]), (9, [4]), (10, [1, 2, 7]), (11, [1, 2, 7, 64]), (12, [1, 2, 7]), (13, [1, 2, 7]), (14, [4])], loops := [(6, [1, 2, 6]), (11, [1, 2, 7])] }
  | 8 => { keep := [(0, []), (1, [1]), (2, [1, 2, 3]), (3, [1, 2, 3, 4, 5]), (4, [1, 3, 4, 5, 6, 7]), (5, [1, 3, 4, 5, 6, 7, 9]), (6, [1, 3, 4, 5, 6, 7, 9, 10, 11]), (7, [0])], loops := [] }
  | 9 => { keep := [(0, [1, 2]), (1, [1, 2, 4]), (2, [1, 2, 4, 8]), (3, [2, 3]), (4, [2, 3])], loops := [] }
  | 10 => { keep := [(0, [1, 2]), (1, [1, 2, 4]), (2, [1, 2, 4, 8]), (3, [2, 3]), (4, [2, 3])], loops := [] }
  | 11 => { keep := [(0, [2, 3]), (1, [4])], loops := [] }
  | 12 => { keep := [(0, [1, 2]), (1, [1, 2]), (2, [1, 2, 11]), (3, [4]), (4, [1, 2, 5]), (5, [1, 2, 5, 20]), (6, [1, 2, 5]), (7, [1, 2, 5]), (8, [4])], loops := [(5, [1, 2, 5])] }
  | 13 => { keep := [(0, [1, 2]), (1, [1, 2, 4, 5]), (2, [2, 4, 28]), (3, [2, 3]), (4, [2, 3])], loops := [] }
  | 14 => { keep := [(0, [1, 2]), (1, [1, 2, 4]), (2, [2, 4, 17]), (3, [2, 3]), (4, [2, 3])], loops := [] }
  | 15 => { keep := [(0, [1]), (1, [1, 6]), (2, [2, 3]), (3, [2, 3])], loops := [] }
  | 16 => { keep := [(0, [1]), (1, [1, 15]), (2, [2, 3]), (3, [2, 3])], loops := [] }
  | 17 => { keep := [(0, [2, 3]), (1, [2, 3, 55]), (2, [4]), (3, [2, 3, 5]), (4, [2, 3, 5, 60]), (5, [2, 3, 5]), (6, [2, 3, 5, 74]), (7, [4]), (8, [4])], loops := [(4, [2, 3, 5])] }
  | 18 => { keep := [(0, [0]), (1, [3]), (2, [3, 8, 9, 10]), (3, [3, 8, 9, 10, 11]), (4, [3, 4, 5, 8, 9, 10]), (5, [3, 4, 5, 8, 9, 10, 20]), (6, [3, 8, 9, 10]), (7, [3, 8, 9, 10]), (8, [2])], loops := [(3, [3, 8, 9, 10])], wr := [2, 3, 4, 5, 6, 7, 8, 9, 10, 11, 12, 13, 14] }
  | 19 => { keep := [(0, [0]), (1, [3]), (2, [3, 4]), (3, [3, 4, 10]), (4, [3, 4]), (5, [3, 4, 24]), (6, [3, 4]), (7, [2])], loops := [(3, [3, 4])], wr := [2, 3, 4, 5, 6, 7, 8, 9, 10, 11, 12, 13, 14] }
  | 20 => { keep := [(0, [1]), (1, [15]), (2, [2]), (3, [2])], loops := [] }
  | 21 => { keep := [(0, [0]), (1, [0, 10, 11, 12]), (2, [0, 10, 11, 12, 13]), (3, [0, 5, 10, 11, 12]), (4, [0, 6, 10, 11, 12]), (5, [0, 6, 10, 11, 12, 19]), (6, [2, 3]), (7, [0, 10, 11, 12]), (8, [0, 7]), (9, [7, 22, 23, 24]), (10, [7, 22, 23, 24, 25]), (11, [7, 9, 22, 23, 24]), (12, [7, 22, 23, 24]), (13, [7, 22, 23, 24]), (14, [7, 32]), (15, [2, 3]), (16, [2, 3])], loops := [(2, [0, 10, 11, 12]), (10, [7, 22, 23, 24])], ty := [7] }
  | 22 => { keep := [(0, [0, 1, 4]), (1, [0, 1, 4, 14]), (2, [4, 5, 6]), (3, [4, 5, 6])], loops := [] }
  | 23 => { keep := [(0, [1, 2]), (1, [1, 2, 7]), (2, [1, 2, 7, 8]), (3, [1, 2, 7, 8]), (4, [1, 2, 7, 8]), (5, [1, 2, 3]), (6, [1, 2, 3, 13, 14, 15]), (7, [1, 2, 3, 13, 14, 15, 16]), (8, [1, 2, 3, 5, 13, 14, 15]), (9, [1, 2, 3, 13, 14, 15]), (10, [1, 2, 3, 13, 14, 15]), (11, [2]), (12, [1, 2, 7, 29]), (13, [2]), (14, [1, 2, 7, 34]), (15, [2]), (16, [1, 2, 38]), (17, [2]), (18, [2])], loops := [(7, [1, 2, 3, 13, 14, 15])] }
  | 24 => { keep := [(0, [1]), (1, [15]), (2, [2]), (3, [2])], loops := [] }
  | 25 => { keep := [(0, [1, 2]), (1, [1, 2, 3]), (2, [1, 2, 3, 11]), (3, [2, 3]), (4, [1, 2, 3, 11, 20]), (5, [1, 2, 3, 11, 20]), (6, [1, 2, 3, 11, 20]), (7, [1, 2, 3, 4]), (8, [1, 2, 3, 4, 28]), (9, [1, 2, 3, 4]), (10, [1, 2, 3, 4]), (11, [1, 2, 3, 11, 42]), (12, [2]), (13, [1, 2, 3, 11, 47]), (14, [1, 2, 3, 5]), (15, [1, 2, 3, 5, 52]), (16, [1, 2, 3, 5]), (17, [1, 2, 3, 5, 6]), (18, [1, 2, 3, 5, 6, 67]), (19, [1, 2, 3, 5, 6]), (20, [1, 2, 3, 5, 6]), (21, [1, 2, 3, 5, 84]), (22, [1, 2, 3, 5]), (23, [2, 3]), (24, [1, 2, 3, 100]), (25, [1, 2, 3, 104]), (26, [1, 2, 3]), (27, [1, 2, 3, 115]), (28, [1, 2, 3]), (29, [1, 2, 3]), (30, [2, 3, 133]), (31, [2, 3]), (32, [2])], loops := [(8, [1, 2, 3, 4]), (18, [1, 2, 3, 5, 6])] }
  | 26 => { keep := [(0, [0, 1]), (1, [0, 1, 10]), (2, [4]), (3, [0, 1, 5]), (4, [0, 1, 5, 14]), (5, [0, 1, 5]), (6, [0, 1, 5, 26]), (7, [4]), (8, [4])], loops := [(4, [0, 1, 5])] }
  | 27 => { keep := [(0, [1, 2, 4]), (1, [1, 2, 4, 6]), (2, [1, 2, 4, 6, 31]), (3, [4, 5]), (4, [1, 2, 4, 6, 34]), (5, [1, 2, 4, 6, 34, 35]), (6, [1, 2, 4, 6, 34, 35]), (7, [1, 2, 4, 6, 34, 35]), (8, [1, 4, 6, 40, 41, 42]), (9, [1, 4, 6, 40, 41, 42, 43]), (10, [1, 4, 6, 8, 40, 41, 42]), (11, [1, 4, 6, 9, 10, 40, 41, 42]), (12, [1, 4, 6, 9, 40, 41, 42, 54]), (13, [4, 5]), (14, [1, 4, 6, 40, 41, 42]), (15, [1, 4, 6, 40, 41, 42]), (16, [4, 5]), (17, [2, 4, 6, 34, 66]), (18, [2, 4, 6]), (19, [4, 5]), (20, [2, 4, 6, 34, 77]), (21, [4, 6, 11]), (22, [4, 5]), (23, [2, 4, 6, 83]), (24, [4, 6, 12]), (25, [4, 5]), (26, [4, 6, 13]), (27, [4, 5])], loops := [(9, [1, 4, 6, 40, 41, 42])], dyn := [(14, 6), (19, 0)] }
  | 28 => { keep := [(0, [0]), (1, [5, 6, 7]), (2, [5, 6, 7, 8]), (3, [4, 5, 6, 7]), (4, [5, 6, 7, 28]), (5, [2]), (6, [5, 6, 7]), (7, [2])], loops := [(2, [5, 6, 7])] }
  | 29 => { keep := [(0, [1]), (1, [1, 8]), (2, [2]), (3, [10, 11, 12]), (4, [10, 11, 12, 13]), (5, [4, 10, 11, 12]), (6, [10, 11, 12, 18]), (7, [2]), (8, [10, 11, 12]), (9, [2])], loops := [(4, [10, 11, 12])] }
  | 30 => { keep := [(0, [1, 2, 4]), (1, [1, 2, 4, 5]), (2, [1, 2, 4, 5, 6]), (3, [1, 2, 4, 5, 6, 17]), (4, [2, 4, 5, 19]), (5, [2, 4, 5]), (6, [4, 5]), (7, [1, 2, 4, 5, 6, 17, 33]), (8, [1, 2, 4, 5, 6, 17, 33]), (9, [1, 2, 4, 5, 6, 17, 33]), (10, [1, 2, 4, 5, 6, 7]), (11, [1, 2, 4, 5, 6, 7, 43]), (12, [1, 2, 4, 5, 6, 7]), (13, [1, 2, 4, 5, 6, 7]), (14, [2, 4, 5, 6, 17, 59]), (15, [4, 5]), (16, [2, 4, 5, 6, 17, 65]), (17, [2, 4, 5, 68]), (18, [2, 4, 5]), (19, [4, 5]), (20, [2, 4, 5, 6, 83]), (21, [2, 4, 5, 6, 8]), (22, [2, 4, 5, 6, 8, 87]), (23, [2, 4, 5, 6, 8]), (24, [2, 4, 5, 6, 8, 9]), (25, [2, 4, 5, 6, 8, 9, 96]), (26, [2, 4, 5, 6, 8, 9, 96, 97]), (27, [2, 4, 5, 6, 8]), (28, [2, 4, 5, 6, 8, 9, 96, 103]), (29, [2, 4, 5, 6, 8]), (30, [2, 4, 5, 6, 8, 9, 96, 109]), (31, [2, 4, 5, 6, 8]), (32, [2, 4, 5, 6, 8, 9, 114]), (33, [2, 4, 5, 6, 8]), (34, [4])], loops := [(11, [1, 2, 4, 5, 6, 7]), (22, [2, 4, 5, 6, 8])] }
  | 31 => { keep := [(0, [1, 2, 4]), (1, [1, 2, 4, 5]), (2, [1, 2, 4, 5, 6]), (3, [1, 2, 4, 5, 6, 19]), (4, [4]), (5, [1, 2, 4, 5, 6, 22]), (6, [2, 4, 5, 24]), (7, [2, 4, 5, 13]), (8, [2, 4, 5, 13]), (9, [4, 5]), (10, [1, 2, 4, 5, 6, 22, 40]), (11, [1, 2, 4, 5, 6, 22, 40]), (12, [1, 2, 4, 5, 6, 22, 40]), (13, [1, 2, 4, 5, 6, 7]), (14, [1, 2, 4, 5, 6, 7, 8]), (15, [1, 2, 4, 5, 6, 7, 8, 46]), (16, [1, 2, 4, 5, 6, 7, 8]), (17, [1, 2, 4, 5, 6, 7, 8]), (18, [4, 5]), (19, [2, 4, 5, 6, 22, 62]), (20, [4, 5]), (21, [2, 4, 5, 6, 68]), (22, [2, 4, 5, 6, 9]), (23, [2, 4, 5, 6, 9, 10]), (24, [2, 4, 5, 6, 9, 10, 72]), (25, [2, 4, 5, 6, 9, 10]), (26, [2, 4, 5, 6, 9, 10, 11]), (27, [2, 4, 5, 6, 9, 10, 11, 87]), (28, [2, 4, 5, 6, 9, 10, 11]), (29, [2, 4, 5, 6, 9, 10, 11, 105]), (30, [2, 4, 5, 6, 9, 10, 11]), (31, [2, 4, 5, 6, 9, 10, 11, 12]), (32, [2, 4, 5, 6, 9, 10, 11, 138]), (33, [2, 4, 5, 6, 9, 10]), (34, [4, 5]), (35, [4])], loops := [(15, [1, 2, 4, 5, 6, 7, 8]), (24, [2, 4, 5, 6, 9, 10])] }
  | 32 => { keep := [(0, [1, 2, 3, 4]), (1, [8])], loops := [] }
  | 33 => { keep := [(0, [2, 3]), (1, [2, 3, 40]), (2, [4]), (3, [2, 3, 5]), (4, [2, 3, 5, 45]), (5, [2, 3, 5]), (6, [2, 3, 5, 58]), (7, [4]), (8, [4])], loops := [(4, [2, 3, 5])] }
  | 34 => { keep := [(0, [1]), (1, [2])], loops := [] }
  | 35 => { keep := [(0, [1]), (1, [1, 5]), (2, [2]), (3, [2])], loops := [] }
  | 36 => { keep := [(0, [1]), (1, [2])], loops := [] }
  | 37 => { keep := [(0, [1]), (1, [1, 5]), (2, [2]), (3, [1, 9]), (4, [2]), (5, [4]), (6, [19]), (7, [2]), (8, [2])], loops := [] }
  | 38 => { keep := [(0, [0, 3]), (1, [0, 3, 12]), (2, [0, 3, 4]), (3, [0, 3, 4, 5]), (4, [0, 3, 4, 5, 23]), (5, [0, 3, 4]), (6, [0, 3, 4, 6]), (7, [0, 4, 6, 27, 28, 29]), (8, [0, 4, 6, 27, 28, 29, 30]), (9, [0, 4, 6, 8, 27, 28, 29]), (10, [0, 4, 6, 27, 28, 29]), (11, [0, 4, 6, 27, 28, 29]), (12, [0, 4, 6]), (13, [0, 4, 5]), (14, [0, 5]), (15, [0, 5]), (16, [])], loops := [(8, [0, 4, 6, 27, 28, 29])], ty := [6] }
  | 39 => { keep := [(0, [0]), (1, [2])], loops := [] }
  | 40 => { keep := [(0, [0, 1, 2, 6]), (1, [0, 1, 2, 6, 19]), (2, [6, 7, 8]), (3, [0, 1, 2, 6, 9]), (4, [0, 1, 2, 6, 10]), (5, [0, 1, 2, 6, 10, 35]), (6, [6, 7, 8]), (7, [0, 1, 2, 6, 10, 11, 12, 13]), (8, [0, 1, 2, 6, 10, 11, 12, 13, 45]), (9, [6, 7, 8]), (10, [0, 1, 2, 6, 10, 11, 12, 50]), (11, [6, 7, 8]), (12, [0, 2, 6, 10, 11, 12, 58]), (13, [6, 7, 8]), (14, [2, 6, 10, 11, 12, 14]), (15, [2, 6, 10, 11, 12, 14, 74]), (16, [6, 10, 11, 12]), (17, [6, 7, 8]), (18, [2, 6, 10, 11, 12, 14, 86]), (19, [6, 7, 8]), (20, [6, 10, 11, 12, 13, 15]), (21, [6, 10, 11, 12, 13, 15, 96]), (22, [6, 7, 8]), (23, [6, 10, 11, 12]), (24, [6, 7, 8])], loops := [] }
  | 41 => { keep := [(0, [0, 1, 4]), (1, [4, 5]), (2, [4])], loops := [] }
  | 42 => { keep := [(0, [0, 1, 2, 6]), (1, [6, 7]), (2, [6])], loops := [] }
  | 43 => { keep := [(0, [1, 2]), (1, [1, 2, 3]), (2, [1, 2, 3, 4]), (3, [1, 2, 3, 4]), (4, [1, 2, 3, 4, 20, 21, 22]), (5, [1, 2, 3, 4, 20, 21, 22, 23]), (6, [1, 2, 3, 4, 6, 20, 21, 22]), (7, [1, 2, 3, 4, 20, 21, 22]), (8, [1, 2, 3, 4, 20, 21, 22]), (9, [1, 2, 3]), (10, [1, 2, 7]), (11, [2])], loops := [(5, [1, 2, 3, 4, 20, 21, 22])], virt := [3], wr := [3] }
  | 44 => { keep := [(0, [1, 2]), (1, [1, 2, 3]), (2, [1, 2, 3, 8]), (3, [1, 2, 3]), (4, [1, 2, 3, 17]), (5, [1, 2, 3]), (6, [1, 2, 3]), (7, [2, 3, 31]), (8, [2, 3, 4]), (9, [2, 3]), (10, [2])], loops := [] }
  | 45 => { keep := [(0, [1]), (1, [2])], loops := [] }
  | 46 => { keep := [(0, [1]), (1, [1, 5]), (2, [2]), (3, [2])], loops := [] }
  | 47 => { keep := [(0, [1]), (1, [1, 3]), (2, [1, 3, 8]), (3, [1, 3]), (4, [1, 3, 17]), (5, [2]), (6, [2])], loops := [(2, [1, 3])] }
  | 48 => { keep := [(0, [0, 1, 4]), (1, [4])], loops := [] }
  | 49 => { keep := [(0, [0, 2]), (1, [2])], loops := [] }
  | 50 => { keep := [(0, [0, 3]), (1, [0, 5]), (2, [0, 5, 35]), (3, [4]), (4, [0, 5, 6, 7]), (5, [0, 5, 7]), (6, [0, 7, 8]), (7, [0, 7, 8, 51, 52, 53]), (8, [0, 7, 8, 51, 52, 53, 54]), (9, [0, 7, 8, 9, 10, 51, 52, 53]), (10, [4]), (11, [0, 7, 8, 9, 10, 51, 52, 53, 58]), (12, [0, 7, 8, 51, 52, 53]), (13, [0, 7, 8, 9, 10, 51, 52, 53, 75]), (14, [0, 7, 8, 51, 52, 53]), (15, [0, 7, 8, 10, 51, 52, 53, 91]), (16, [0, 7, 8, 51, 52, 53]), (17, [0, 7, 8, 51, 52, 53]), (18, [4])], loops := [(8, [0, 7, 8, 51, 52, 53])] }
  | 51 => { keep := [(0, [0, 3]), (1, [0, 3, 5]), (2, [0, 3, 5, 6]), (3, [0, 5, 6, 12, 13, 14]), (4, [0, 5, 6, 12, 13, 14, 15]), (5, [0, 5, 6, 8, 12, 13, 14]), (6, [0, 6, 8, 12, 13, 14, 36]), (7, [4]), (8, [0, 5, 6, 8, 12, 13, 14]), (9, [0, 5, 6, 8, 12, 13, 14, 40]), (10, [0, 5, 6, 8, 9, 10, 12, 13, 14]), (11, [0, 5, 6, 9, 12, 13, 14, 52]), (12, [4]), (13, [0, 5, 6, 12, 13, 14]), (14, [0, 5, 6, 8, 12, 13, 14, 40, 57]), (15, [0, 5, 6, 12, 13, 14]), (16, [0, 5, 6, 12, 13, 14, 69]), (17, [4]), (18, [0, 5, 6, 8, 12, 13, 14, 40, 70]), (19, [0, 5, 6, 12, 13, 14]), (20, [0, 5, 6, 12, 13, 14, 82]), (21, [4]), (22, [0, 5, 6, 8, 12, 13, 14, 83]), (23, [0, 5, 6, 12, 13, 14]), (24, [0, 5, 6, 12, 13, 14]), (25, [4])], loops := [(4, [0, 5, 6, 12, 13, 14])] }
  | 52 => { keep := [(0, [0, 3]), (1, [0, 5]), (2, [0, 5, 24]), (3, [4]), (4, [0, 5, 6, 7]), (5, [7]), (6, [4])], loops := [] }
  | 53 => { keep := [(0, [0, 2]), (1, [0, 2, 3]), (2, [0, 2, 3, 4]), (3, [0, 2, 3, 4, 9]), (4, [0, 2, 3, 4]), (5, [0, 2, 3, 4, 16]), (6, [0, 2, 3, 4, 16, 17]), (7, [0, 2, 3, 4]), (8, [0, 2, 3, 4]), (9, [0, 2, 3, 4, 16, 26]), (10, [0, 2, 3, 4]), (11, [0, 2, 3, 4, 38]), (12, [0, 2, 3, 4]), (13, [0, 2, 3, 4]), (14, [2])], loops := [(3, [0, 2, 3, 4])] }
  | 54 => { keep := [(0, [1, 2]), (1, [1, 2, 5]), (2, [1, 2, 5, 6]), (3, [1, 2, 5, 6, 15]), (4, [1, 2, 5, 6]), (5, [1, 2, 5, 6]), (6, [4])], loops := [(3, [1, 2, 5, 6])] }
  | 55 => { keep := [(0, [1, 2]), (1, [1, 2]), (2, [1, 2, 5]), (3, [1, 2, 5, 16]), (4, [1, 2, 5]), (5, [1, 2, 5]), (6, [4])], loops := [(3, [1, 2, 5])] }
  | 56 => { keep := [(0, [1]), (1, [1, 3]), (2, [1, 3, 4]), (3, [1, 3, 4, 5]), (4, [1, 3, 4, 5, 22]), (5, [1, 3, 4, 5, 22, 23]), (6, [1, 3, 4, 5, 22, 23]), (7, [1, 3, 4, 5, 22, 23]), (8, [2]), (9, [1, 3, 4, 5, 22, 50]), (10, [1, 3, 4, 5, 22, 50]), (11, [1, 3, 4, 5, 22, 50]), (12, [1, 3, 4, 5, 22, 50]), (13, [2]), (14, [1, 3, 4, 5, 22, 73]), (15, [2]), (16, [1, 3, 4, 5, 22, 92]), (17, [2]), (18, [1, 4, 5, 119]), (19, [2]), (20, [2])], loops := [] }
  | 57 => { keep := [(0, [0, 1]), (1, [4])], loops := [] }
  | 58 => { keep := [(0, [1]), (1, [2])], loops := [] }
  | 59 => { keep := [(0, [1]), (1, [2])], loops := [] }
  | 60 => { keep := [(0, [1]), (1, [1, 22]), (2, [2]), (3, [1, 40]), (4, [2]), (5, [42, 43, 44]), (6, [42, 43, 44, 45]), (7, [4, 42, 43, 44]), (8, [42, 43, 44, 50]), (9, [2]), (10, [42, 43, 44]), (11, [2])], loops := [(6, [42, 43, 44])] }
  | 61 => { keep := [(0, [1]), (1, [1, 4]), (2, [4]), (3, [2, 3])], loops := [], dyn := [(3, 0)], ty := [4] }
  | 62 => { keep := [(0, [0, 1]), (1, [0, 1, 25]), (2, [])], loops := [] }
  | 63 => { keep := [(0, [0]), (1, [0, 3]), (2, [2]), (3, [0, 10]), (4, [2]), (5, [2])], loops := [] }
  | 64 => { keep := [(0, [0, 1]), (1, [0, 1]), (2, [0, 1, 12]), (3, [0, 1, 7]), (4, [0, 1, 7]), (5, [0, 1, 7, 20]), (6, [4, 5, 6]), (7, [0, 1, 8]), (8, [0, 1, 8, 30]), (9, [0, 1, 8, 36]), (10, [0, 1, 7, 8]), (11, [0, 1, 7, 8, 42]), (12, [1, 7, 8]), (13, [1, 7, 8, 56]), (14, [4, 5, 6]), (15, [4, 5, 6]), (16, [4, 5, 6])], loops := [] }
  | 65 => { keep := [(0, [0, 1]), (1, [0, 1, 6]), (2, [0, 1, 6, 7]), (3, [0, 1, 6, 7, 14]), (4, [0, 1, 6, 8, 9, 10]), (5, [0, 1, 6, 8, 9, 10, 24]), (6, [4, 5]), (7, [0, 1, 6, 9]), (8, [0, 1, 6, 7]), (9, [4, 5])], loops := [(3, [0, 1, 6, 7])] }
  | 66 => { keep := [(0, [0, 1, 5, 6]), (1, [6, 7])], loops := [] }
  | 67 => { keep := [(0, [0, 1, 5, 6]), (1, [6, 7])], loops := [] }
  | 68 => { keep := [(0, [1, 2, 3, 7]), (1, [])], loops := [], dyn := [(1, 7)] }
  | 69 => { keep := [(0, [0, 1, 5, 6]), (1, [6, 7])], loops := [] }
  | 70 => { keep := [(0, [1, 2]), (1, [1, 2, 5]), (2, [1, 2, 5, 6]), (3, [1, 2, 5, 6, 16]), (4, [1, 2, 5, 6]), (5, [1, 2, 5, 6, 7]), (6, [1, 2, 5, 6, 7, 29]), (7, [1, 2, 5, 6]), (8, [4])], loops := [(3, [1, 2, 5, 6])] }
  | 71 => { keep := [(0, [1]), (1, [1, 3]), (2, [1, 3, 4]), (3, [1, 3, 4, 13]), (4, [1, 3, 4]), (5, [1, 3, 4]), (6, [3, 25]), (7, [2]), (8, [2])], loops := [(3, [1, 3, 4])] }
  | 72 => { keep := [(0, [1]), (1, [1, 3]), (2, [1, 3, 9]), (3, [1, 3, 9, 10]), (4, [1, 3, 9, 10]), (5, [2]), (6, [1, 3, 15]), (7, [2]), (8, [1, 3, 34]), (9, [2]), (10, [1, 3, 36]), (11, [1, 3, 36, 37]), (12, [1, 3, 36, 37]), (13, [1, 3, 36, 37]), (14, [1, 3, 36, 37]), (15, [2]), (16, [1, 3, 36, 47]), (17, [2]), (18, [1, 3, 36, 54]), (19, [2]), (20, [1, 3, 66]), (21, [1, 3, 4]), (22, [2]), (23, [2])], loops := [] }
  | 73 => { keep := [(0, [1]), (1, [1, 12]), (2, [2, 3]), (3, [2, 3])], loops := [] }
  | 74 => { keep := [(0, [1]), (1, [2])], loops := [] }
  | 75 => { keep := [(0, [0]), (1, [0, 17]), (2, [2]), (3, [0, 3]), (4, [0, 3, 21]), (5, [0, 3]), (6, [0, 3, 4]), (7, [0, 3, 41]), (8, [2]), (9, [2])], loops := [(4, [0, 3])] }
  | 76 => { keep := [(0, [1]), (1, [1, 3]), (2, [1, 3]), (3, [2]), (4, [1, 22]), (5, [1, 22]), (6, [22]), (7, [2]), (8, [2])], loops := [] }
  | 77 => { keep := [(0, [1]), (1, [1, 3]), (2, [2])], loops := [] }
  | 78 => { keep := [(0, [0]), (1, [2])], loops := [] }
  | 79 => { keep := [(0, [0, 1]), (1, [0, 1, 7, 8]), (2, [0, 1, 7, 8, 9]), (3, [0, 1, 5, 7, 8]), (4, [0, 1, 5, 7, 8, 16]), (5, [4]), (6, [0, 1, 7, 8]), (7, [4])], loops := [(2, [0, 1, 7, 8])] }
  | 80 => { keep := [(0, [1, 2]), (1, [1, 2, 9]), (2, [4]), (3, [1, 2, 5]), (4, [1, 5, 11, 12, 13]), (5, [1, 5, 11, 12, 13, 14]), (6, [1, 5, 7, 11, 12, 13]), (7, [1, 5, 11, 12, 13]), (8, [1, 5, 11, 12, 13]), (9, [4])], loops := [(5, [1, 5, 11, 12, 13])] }
  | 81 => { keep := [(0, [0]), (1, [2])], loops := [] }
  | 82 => { keep := [(0, [0, 1]), (1, [0, 1]), (2, [1]), (3, [4, 5])], loops := [], ty := [14] }
  | 83 => { keep := [(0, [0, 1, 2, 6]), (1, [0, 1, 2, 6, 22]), (2, [6, 7]), (3, [2, 6, 8]), (4, [6, 8]), (5, [6, 7])], loops := [] }
  | 84 => { keep := [(0, [])], loops := [] }
  | 85 => { keep := [(0, [0]), (1, [0, 4]), (2, [2]), (3, [2])], loops := [] }
  | 86 => { keep := [(0, [])], loops := [] }
  | 87 => { keep := [(0, [0, 1]), (1, [0, 6]), (2, [])], loops := [] }
  | 88 => { keep := [(0, [0]), (1, [0, 13]), (2, [2]), (3, [0, 3]), (4, [0, 3, 17]), (5, [0, 3]), (6, [0, 3, 4]), (7, [0, 3, 4, 5]), (8, [0, 3, 55]), (9, [2]), (10, [2])], loops := [(4, [0, 3])] }
  | 89 => { keep := [(0, [1, 2, 3, 4, 5]), (1, [3, 5, 36]), (2, [10]), (3, [10])], loops := [] }
  | 90 => { keep := [(0, [1]), (1, [1, 18]), (2, [2]), (3, [1, 3]), (4, [1, 3, 23]), (5, [1, 3]), (6, [1, 3, 32]), (7, [2]), (8, [2])], loops := [(4, [1, 3])] }
  | 91 => { keep := [(0, [1]), (1, [2])], loops := [] }
  | 92 => { keep := [(0, [0]), (1, [2])], loops := [] }
  | 93 => { keep := [(0, [0, 1]), (1, [4])], loops := [] }
  | 94 => { keep := [(0, [0]), (1, [2])], loops := [] }
  | 95 => { keep := [(0, [0, 1]), (1, [4])], loops := [] }
  | 97 => { keep := [(0, [1]), (1, [1, 3]), (2, [1, 3, 9]), (3, [1, 3]), (4, [1, 3, 13]), (5, [1, 3]), (6, [1, 41]), (7, [2]), (8, [1, 4]), (9, [1, 4, 46]), (10, [1, 4]), (11, [1, 4, 55]), (12, [2]), (13, [2])], loops := [(9, [1, 4])] }
  | 98 => { keep := [(0, [0, 1]), (1, [0, 1, 7, 8]), (2, [0, 1, 7, 8, 9]), (3, [0, 1, 5, 7, 8]), (4, [0, 1, 5, 7, 8, 16]), (5, [4]), (6, [0, 1, 7, 8]), (7, [4])], loops := [(2, [0, 1, 7, 8])] }
  | 99 => { keep := [(0, [0, 1]), (1, [0, 1, 7, 8]), (2, [0, 1, 7, 8, 9]), (3, [0, 1, 5, 7, 8]), (4, [0, 1, 5, 7, 8, 16]), (5, [4]), (6, [0, 1, 7, 8]), (7, [4])], loops := [(2, [0, 1, 7, 8])] }
  | _ => {}

def impure : List Nat := [38, 62, 81, 82, 96, 50, 51, 52, 68, 83, 84, 86, 87, 41, 66, 85]
def isNull : AV → Bool
  | .d (.lit (.pointer none)) => true
  | _ => false
def isSelf (loc : Nat) : AV → Bool
  | .tptr t n l off => t == 71 && n == 3 && l == loc && off == 0
  | _ => false
def PTI : TI := ⟨.ptr, 1, 8, some (.pointer none)⟩
def STI : TI := ⟨.slice 5, 1, 24, some (.slice none 0 0)⟩
/-- A builder's check of its own address. -/
def primCopyCheck : List AV → Store → Option (AV × Store)
  | [.tptr t n loc off], st => bif t == 71 && n == 3 && off == 0 then
      (ldPtr0 st PTI (.ptr loc 1 0 0)).bind fun a =>
        bif isNull a then stPtr0 st PTI (.ptr loc 1 0 0) (.tptr 71 3 loc 0) else
        bif isSelf loc a then some (.tup [], st) else none
      else none
  | _, _ => none
def bytes8 : List AV → Option (List UInt8)
  | [] => some []
  | .d (.lit (.int .u8 n)) :: r => bif decide (((UInt8.ofNat n.toNat).toNat : Int) = n) then (bytes8 r).map (UInt8.ofNat n.toNat :: ·) else none
  | _ => none
/-- A builder's bytes as a text. -/
def primString : List AV → Store → Option (AV × Store)
  | [.tptr t n loc off], st => bif t == 71 && n == 3 && off == 0 then
      (ldPtr0 st STI (.ptr loc 1 0 1)).bind fun v => match v with
        | .snil => some (.d (.str []), st)
        | .tsref e l2 ep _ len => bif e == 5 then (getBlk st l2 ep).bind fun b =>
             bif b.row && b.shut && b.es == 1 && len == b.elems.length && !(len == 0) && Nat.ble len 1073741824 then (bytes8 b.elems).map fun l => (.d (.str l), st) else none
           else none
        | _ => none
      else none
  | _, _ => none
def primT (f : Nat) : Option (List AV → Store → Option (AV × Store)) := if f == 96 then some primCopyCheck else if f == 39 then some primString else none
def useL : List Nat := [2, 3, 4, 5, 6, 7, 8, 9, 10, 11, 12, 13, 14, 15, 16, 17, 18, 19, 20, 21, 22, 23, 24, 25, 26, 27, 28, 29, 30, 31, 32, 33, 34, 35, 36, 37, 38, 40, 41, 42, 43, 44, 45, 46, 47, 48, 49, 50, 51, 52, 53, 54, 55, 56, 57, 58, 59, 60, 61, 62, 63, 64, 65, 66, 67, 68, 69, 70, 71, 72, 73, 74, 75, 76, 77, 78, 79, 80, 81, 82, 83, 84, 85, 86, 87, 88, 89, 90, 91, 92, 93, 94, 95, 97, 98, 99]
noncomputable def X : Ctx := ⟨Try.prog, fun f => memN useL f, fun f => !(impure.contains f), primT, annT⟩
theorem ti0 : tiOf Try.prog 0 = some { k := TK.other, size := 1, bytes := 0, zero := some (Value.tuple #[]) } := by kernel_rfl
theorem ti1 : tiOf Try.prog 1 = some { k := TK.fn, size := 1, bytes := 8, zero := some Value.nilFunc } := by kernel_rfl
theorem ti2 : tiOf Try.prog 2 = some { k := TK.int IntKind.i64, size := 1, bytes := 8, zero := some (Value.int IntKind.i64 0) } := by kernel_rfl
theorem ti3 : tiOf Try.prog 3 = some { k := TK.int IntKind.i64, size := 1, bytes := 8, zero := some (Value.int IntKind.i64 0) } := by kernel_rfl
theorem ti4 : tiOf Try.prog 4 = some { k := TK.bool, size := 1, bytes := 1, zero := some (Value.bool false) } := by kernel_rfl
theorem ti5 : tiOf Try.prog 5 = some { k := TK.int IntKind.u8, size := 1, bytes := 1, zero := some (Value.int IntKind.u8 0) } := by kernel_rfl
theorem ti6 : tiOf Try.prog 6 = some { k := TK.int IntKind.u8, size := 1, bytes := 1, zero := some (Value.int IntKind.u8 0) } := by kernel_rfl
theorem ti7 : tiOf Try.prog 7 = some { k := TK.struct (some [(0, 1), (1, 1), (2, 1), (3, 1)]), size := 4, bytes := 24, zero := some (Value.agg #[Value.int IntKind.i64 0, Value.int IntKind.i64 0, Value.bool false, Value.int IntKind.u8 0]) } := by kernel_rfl
theorem ti8 : tiOf Try.prog 8 = some { k := TK.struct (some [(0, 1), (1, 1), (2, 1), (3, 1)]), size := 4, bytes := 24, zero := some (Value.agg #[Value.int IntKind.i64 0, Value.int IntKind.i64 0, Value.bool false, Value.int IntKind.u8 0]) } := by kernel_rfl
theorem ti9 : tiOf Try.prog 9 = some { k := TK.str, size := 1, bytes := 16, zero := some (Value.string ⟨#[]⟩) } := by kernel_rfl
theorem ti10 : tiOf Try.prog 10 = some { k := TK.str, size := 1, bytes := 16, zero := some (Value.string ⟨#[]⟩) } := by kernel_rfl
theorem ti11 : tiOf Try.prog 11 = some { k := TK.str, size := 1, bytes := 16, zero := some (Value.string ⟨#[]⟩) } := by kernel_rfl
theorem ti12 : tiOf Try.prog 12 = some { k := TK.int IntKind.u64, size := 1, bytes := 8, zero := some (Value.int IntKind.u64 0) } := by kernel_rfl
theorem ti13 : tiOf Try.prog 13 = some { k := TK.struct (some [(0, 1), (1, 1)]), size := 2, bytes := 24, zero := some (Value.agg #[Value.string ⟨#[]⟩, Value.int IntKind.u64 0]) } := by kernel_rfl
theorem ti14 : tiOf Try.prog 14 = some { k := TK.struct (some [(0, 1), (1, 1)]), size := 2, bytes := 24, zero := some (Value.agg #[Value.string ⟨#[]⟩, Value.int IntKind.u64 0]) } := by kernel_rfl
theorem ti15 : tiOf Try.prog 15 = some { k := TK.ptr, size := 1, bytes := 8, zero := some (Value.pointer none) } := by kernel_rfl
theorem ti16 : tiOf Try.prog 16 = some { k := TK.ptr, size := 1, bytes := 8, zero := some (Value.pointer none) } := by kernel_rfl
theorem ti17 : tiOf Try.prog 17 = some { k := TK.ptr, size := 1, bytes := 8, zero := some (Value.pointer none) } := by kernel_rfl
theorem ti18 : tiOf Try.prog 18 = some { k := TK.struct (some [(0, 1)]), size := 1, bytes := 8, zero := some (Value.agg #[Value.pointer none]) } := by kernel_rfl
theorem ti19 : tiOf Try.prog 19 = some { k := TK.struct (some [(0, 1)]), size := 1, bytes := 8, zero := some (Value.agg #[Value.pointer none]) } := by kernel_rfl
theorem ti20 : tiOf Try.prog 20 = some { k := TK.other, size := 1, bytes := 16, zero := some Value.nilIface } := by kernel_rfl
theorem ti21 : tiOf Try.prog 21 = some { k := TK.int IntKind.i32, size := 1, bytes := 4, zero := some (Value.int IntKind.i32 0) } := by kernel_rfl
theorem ti22 : tiOf Try.prog 22 = some { k := TK.slice 9, size := 1, bytes := 24, zero := some (Value.slice none 0 0) } := by kernel_rfl
theorem ti23 : tiOf Try.prog 23 = some { k := TK.struct (some [(0, 1), (1, 1), (2, 1), (3, 1), (4, 1)]), size := 5, bytes := 64, zero := some (Value.agg #[Value.string ⟨#[]⟩, Value.slice none 0 0, Value.string ⟨#[]⟩, Value.bool false, Value.bool false]) } := by kernel_rfl
theorem ti24 : tiOf Try.prog 24 = some { k := TK.struct (some [(0, 1), (1, 1), (2, 1), (3, 1), (4, 1)]), size := 5, bytes := 64, zero := some (Value.agg #[Value.string ⟨#[]⟩, Value.slice none 0 0, Value.string ⟨#[]⟩, Value.bool false, Value.bool false]) } := by kernel_rfl
theorem ti25 : tiOf Try.prog 25 = some { k := TK.slice 27, size := 1, bytes := 24, zero := some (Value.slice none 0 0) } := by kernel_rfl
theorem ti26 : tiOf Try.prog 26 = some { k := TK.struct (some [(0, 1), (1, 1), (2, 1), (3, 5), (8, 1), (9, 1), (10, 1)]), size := 11, bytes := 152, zero := some (Value.agg #[Value.int IntKind.i64 0, Value.string ⟨#[]⟩, Value.string ⟨#[]⟩, Value.string ⟨#[]⟩, Value.slice none 0 0, Value.string ⟨#[]⟩, Value.bool false, Value.bool false, Value.string ⟨#[]⟩, Value.bool false, Value.slice none 0 0]) } := by kernel_rfl
theorem ti27 : tiOf Try.prog 27 = some { k := TK.struct (some [(0, 1), (1, 1), (2, 1), (3, 5), (8, 1), (9, 1), (10, 1)]), size := 11, bytes := 152, zero := some (Value.agg #[Value.int IntKind.i64 0, Value.string ⟨#[]⟩, Value.string ⟨#[]⟩, Value.string ⟨#[]⟩, Value.slice none 0 0, Value.string ⟨#[]⟩, Value.bool false, Value.bool false, Value.string ⟨#[]⟩, Value.bool false, Value.slice none 0 0]) } := by kernel_rfl
theorem ti28 : tiOf Try.prog 28 = some { k := TK.fn, size := 1, bytes := 8, zero := some Value.nilFunc } := by kernel_rfl
theorem ti29 : tiOf Try.prog 29 = some { k := TK.fn, size := 1, bytes := 8, zero := some Value.nilFunc } := by kernel_rfl
theorem ti30 : tiOf Try.prog 30 = some { k := TK.slice 32, size := 1, bytes := 24, zero := some (Value.slice none 0 0) } := by kernel_rfl
theorem ti31 : tiOf Try.prog 31 = some { k := TK.struct (some [(0, 1), (1, 1), (2, 1), (3, 1), (4, 1)]), size := 5, bytes := 64, zero := some (Value.agg #[Value.int IntKind.i64 0, Value.bool false, Value.int IntKind.i64 0, Value.string ⟨#[]⟩, Value.slice none 0 0]) } := by kernel_rfl
theorem ti32 : tiOf Try.prog 32 = some { k := TK.struct (some [(0, 1), (1, 1), (2, 1), (3, 1), (4, 1)]), size := 5, bytes := 64, zero := some (Value.agg #[Value.int IntKind.i64 0, Value.bool false, Value.int IntKind.i64 0, Value.string ⟨#[]⟩, Value.slice none 0 0]) } := by kernel_rfl
theorem ti33 : tiOf Try.prog 33 = some { k := TK.int IntKind.i64, size := 1, bytes := 8, zero := some (Value.int IntKind.i64 0) } := by kernel_rfl
theorem ti34 : tiOf Try.prog 34 = some { k := TK.other, size := 1, bytes := 0, zero := some (Value.tuple #[Value.agg { toList := [Value.int IntKind.i64 0, Value.bool false, Value.int IntKind.i64 0, Value.string ⟨#[]⟩, Value.slice none 0 0] }, Value.int IntKind.i64 0]) } := by kernel_rfl
theorem ti35 : tiOf Try.prog 35 = some { k := TK.fn, size := 1, bytes := 8, zero := some Value.nilFunc } := by kernel_rfl
theorem ti36 : tiOf Try.prog 36 = some { k := TK.other, size := 1, bytes := 0, zero := some (Value.tuple #[Value.agg { toList := [Value.int IntKind.i64 0, Value.bool false, Value.int IntKind.i64 0, Value.string ⟨#[]⟩, Value.slice none 0 0] }, Value.int IntKind.i64 0]) } := by kernel_rfl
theorem ti37 : tiOf Try.prog 37 = some { k := TK.fn, size := 1, bytes := 8, zero := some Value.nilFunc } := by kernel_rfl
theorem ti38 : tiOf Try.prog 38 = some { k := TK.fn, size := 1, bytes := 8, zero := some Value.nilFunc } := by kernel_rfl
theorem ti39 : tiOf Try.prog 39 = some { k := TK.fn, size := 1, bytes := 8, zero := some Value.nilFunc } := by kernel_rfl
theorem ti40 : tiOf Try.prog 40 = some { k := TK.fn, size := 1, bytes := 8, zero := some Value.nilFunc } := by kernel_rfl
theorem ti41 : tiOf Try.prog 41 = some { k := TK.other, size := 1, bytes := 0, zero := some (Value.tuple #[Value.agg { toList := [Value.int IntKind.i64 0, Value.string ⟨#[]⟩, Value.string ⟨#[]⟩, Value.string ⟨#[]⟩, Value.slice none 0 0, Value.string ⟨#[]⟩, Value.bool false, Value.bool false, Value.string ⟨#[]⟩, Value.bool false, Value.slice none 0 0] }, Value.int IntKind.i64 0]) } := by kernel_rfl
theorem ti42 : tiOf Try.prog 42 = some { k := TK.fn, size := 1, bytes := 8, zero := some Value.nilFunc } := by kernel_rfl
theorem ti43 : tiOf Try.prog 43 = some { k := TK.other, size := 1, bytes := 0, zero := some (Value.tuple #[Value.agg { toList := [Value.int IntKind.i64 0, Value.string ⟨#[]⟩, Value.string ⟨#[]⟩, Value.string ⟨#[]⟩, Value.slice none 0 0, Value.string ⟨#[]⟩, Value.bool false, Value.bool false, Value.string ⟨#[]⟩, Value.bool false, Value.slice none 0 0] }, Value.int IntKind.i64 0]) } := by kernel_rfl
theorem ti44 : tiOf Try.prog 44 = some { k := TK.fn, size := 1, bytes := 8, zero := some Value.nilFunc } := by kernel_rfl
theorem ti45 : tiOf Try.prog 45 = some { k := TK.other, size := 1, bytes := 0, zero := some (Value.tuple #[Value.string ⟨#[]⟩, Value.bool false]) } := by kernel_rfl
theorem ti46 : tiOf Try.prog 46 = some { k := TK.fn, size := 1, bytes := 8, zero := some Value.nilFunc } := by kernel_rfl
theorem ti47 : tiOf Try.prog 47 = some { k := TK.fn, size := 1, bytes := 8, zero := some Value.nilFunc } := by kernel_rfl
theorem ti48 : tiOf Try.prog 48 = some { k := TK.fn, size := 1, bytes := 8, zero := some Value.nilFunc } := by kernel_rfl
theorem ti49 : tiOf Try.prog 49 = some { k := TK.fn, size := 1, bytes := 8, zero := some Value.nilFunc } := by kernel_rfl
theorem ti50 : tiOf Try.prog 50 = some { k := TK.fn, size := 1, bytes := 8, zero := some Value.nilFunc } := by kernel_rfl
theorem ti51 : tiOf Try.prog 51 = some { k := TK.other, size := 1, bytes := 0, zero := some (Value.tuple #[Value.string ⟨#[]⟩, Value.int IntKind.i64 0]) } := by kernel_rfl
theorem ti52 : tiOf Try.prog 52 = some { k := TK.fn, size := 1, bytes := 8, zero := some Value.nilFunc } := by kernel_rfl
theorem ti53 : tiOf Try.prog 53 = some { k := TK.other, size := 1, bytes := 0, zero := some (Value.tuple #[Value.agg { toList := [Value.int IntKind.i64 0, Value.bool false, Value.int IntKind.i64 0, Value.string ⟨#[]⟩, Value.slice none 0 0] }, Value.int IntKind.i64 0, Value.int IntKind.i64 0]) } := by kernel_rfl
theorem ti54 : tiOf Try.prog 54 = some { k := TK.fn, size := 1, bytes := 8, zero := some Value.nilFunc } := by kernel_rfl
theorem ti55 : tiOf Try.prog 55 = some { k := TK.fn, size := 1, bytes := 8, zero := some Value.nilFunc } := by kernel_rfl
theorem ti56 : tiOf Try.prog 56 = some { k := TK.fn, size := 1, bytes := 8, zero := some Value.nilFunc } := by kernel_rfl
theorem ti57 : tiOf Try.prog 57 = some { k := TK.fn, size := 1, bytes := 8, zero := some Value.nilFunc } := by kernel_rfl
theorem ti58 : tiOf Try.prog 58 = some { k := TK.other, size := 1, bytes := 0, zero := some (Value.tuple #[Value.agg { toList := [Value.int IntKind.i64 0, Value.string ⟨#[]⟩, Value.string ⟨#[]⟩, Value.string ⟨#[]⟩, Value.slice none 0 0, Value.string ⟨#[]⟩, Value.bool false, Value.bool false, Value.string ⟨#[]⟩, Value.bool false, Value.slice none 0 0] }, Value.bool false]) } := by kernel_rfl
theorem ti59 : tiOf Try.prog 59 = some { k := TK.fn, size := 1, bytes := 8, zero := some Value.nilFunc } := by kernel_rfl
theorem ti60 : tiOf Try.prog 60 = some { k := TK.fn, size := 1, bytes := 8, zero := some Value.nilFunc } := by kernel_rfl
theorem X_P : X.P = Try.prog := rfl
/-- The calls of layer 25. -/
noncomputable def C : Eng.Call := callL X
noncomputable def run (an : Ann) (c : Code) (s : S) : Option (Ex × S) := runL X an c s
noncomputable def iter (an : Ann) (c : Code) (s : S) : Option S := (run an c s).bind fun r => match r.1 with
  | .norm => some (headS an c s.st.length r.2)
  | _ => none
noncomputable def outR : List AV → AV
    | [v] => v
    | l => .tup l
noncomputable def resR (rs : List ResultVar) (s : S) : R := ((resAll Try.prog s rs).map outR).map fun v => (v, s.st)
noncomputable def bodyR (rs : List ResultVar) : Ex × S → R
  | (.norm, s) => resR rs s
  | (.ret, s) => resR rs s
  | _ => none
theorem C_eq {f : FuncId} (fn : Func) {c : Code} {rs : Array ResultVar} (hu : memN useL f = true) (hf : Try.prog.funcs[f]? = some fn) (hb : fn.body = some c) (hr : fn.results = rs) (args : List AV) (st : Store) :
    C f args st = (run (annT f) c ⟨argsT 0 args, st⟩).bind (bodyR rs.toList) := by
  subst hr
  refine (callL_eq (X := X) hu hf hb args st).trans ?_
  congr 1
theorem P_eq {f : FuncId} (fn : Func) {c : Code} {rs : Array ResultVar} (hu : memN useL f = true) (hf : Try.prog.funcs[f]? = some fn) (hb : fn.body = some c) (hr : fn.results = rs) (ds : List D) :
    pureCall C f ds = ((run (annT f) c ⟨argsT 0 (ds.map .d), []⟩).bind (bodyR rs.toList)).bind prOf := by
  rw [← C_eq fn hu hf hb hr]; rfl
section
variable (an : Ann) (a b : Code) (s : S)
theorem run_region (id : Nat) (ops : Array Oper) (dr : Bool) (hd : assocN an.dyn id = none) : run an (.region id ops dr) s = (stepsO X an C ops ops.toList s).map fun s' => (.norm, behindS an id s') := runL_region id ops dr s hd
theorem run_regionE (id : Nat) (ops : Array Oper) (dr : Bool) : run an (.region id ops dr) s = (regionE X an C id ops s).map fun s' => (.norm, behindS an id s') := runL_regionE id ops dr s
theorem run_seq : run an (.seq a b) s = (run an a s).bind fun r => match r.1 with
    | .norm => run an b r.2
    | e => some (e, r.2) := runL_seq a b s
theorem run_cond (c : Operand) : run an (.cond c a b) s = (asB (opv s.t c)).bind fun t => bif t then run an a s else run an b s := runL_cond c a b s
theorem run_block (id : Nat) : run an (.block id a) s = (run an a s).map fun r => match r.1 with
    | .exit j => bif j == id then (.norm, r.2) else (.exit j, r.2)
    | e => (e, r.2) := runL_block id a s
theorem run_loop : run an (.loop a) s = (run an a s).bind fun r => match r.1 with
    | .norm => run an (.loop a) (headS an a s.st.length r.2)
    | e => some (e, r.2) := runL_loop a s
theorem run_scope : run an (.scope a) s = (run an a s).bind fun r => match r.1 with
    | .goto l => (match findLabel a l with
      | some rest => (run an rest r.2).bind fun r => match r.1 with
        | .goto _ => none
        | e => some (e, r.2)
      | none => none)
    | e => some (e, r.2) := runL_scope a s
theorem run_skip : run an .skip s = some (.norm, s) := runL_skip s
theorem run_label (l : Nat) : run an (.label l) s = some (.norm, s) := runL_label l s
theorem run_exit (l : Nat) : run an (.exit l) s = some (.exit l, s) := runL_exit l s
theorem run_goto (l : Nat) : run an (.goto l) s = some (.goto l, s) := runL_goto l s
theorem run_ret : run an .ret s = some (.ret, s) := runL_ret s
end
/-- A loop that goes n rounds. -/
theorem loop_at {an : Ann} {c : Code} {s : S} {r : Ex × S} (n : Nat) (σ : Nat → S) (h0 : s = σ 0) (h1 : ∀ i, i < n → iter an c (σ i) = some (σ (i + 1))) (h2 : run an c (σ n) = some r) (h3 : ∀ s, r ≠ (.norm, s)) :
    run an (.loop c) s = some r := by
  subst h0
  induction n generalizing σ with
  | zero =>
    rw [run_loop, h2]
    obtain ⟨e, s⟩ := r
    cases e with
    | norm => exact absurd rfl (h3 s)
    | _ => rfl
  | succ n ih =>
    have h := h1 0 (by omega)
    unfold iter at h
    obtain ⟨⟨e, t⟩, h4, h5⟩ := Option.bind_eq_some_iff.1 h
    rw [run_loop, h4]
    cases e with
    | norm =>
      simp only [Option.some.injEq] at h5
      simp only [Option.bind_some]
      rw [h5]
      exact ih (fun i => σ (i + 1)) (fun i hi => h1 (i + 1) (by omega)) h2
    | _ => cases h5

def isT : Option (AV × Store) → Bool
  | some (.d (.lit (.bool true)), _) => true
  | _ => false
theorem ctxAll : useL.all (funcOk X) = true := by kernel_rfl
theorem ctxOk : CtxOk X := fun f hf => List.all_eq_true.1 ctxAll f (by
  have : ∀ l : List Nat, memN l f = true → f ∈ l := by
    intro l
    induction l with
    | nil => intro h; cases h
    | cons a r ih =>
      intro h
      simp only [memN, Bool.or_eq_true, beq_iff_eq] at h
      rcases h with h | h
      · rw [h]; exact List.mem_cons_self
      · exact List.mem_cons_of_mem _ (ih h)
  exact this _ hf)

section
variable (an : Ann) (a b : Code) (s : S)
theorem q_seq : run an (.seq a b) s = contK (run an b) (run an a s) := (run_seq an a b s).trans (cont_eq (run an b) _)
theorem q_cond (c : Operand) : run an (.cond c a b) s = condK (opv s.t c) (run an a) (run an b) s := run_cond an a b s c
theorem q_block (id : Nat) : run an (.block id a) s = blkK id (run an a s) := run_block an a s id
theorem q_loop (ks : List Nat) (m : Nat) (h : assoc an.loops (firstRid a) = some ks) (hm : maskOf ks = m) : run an (.loop a) s = loopK m s.st.length (run an (.loop a)) (run an a s) := (run_loop an a s).trans (loop_eq h hm _ _ _)
theorem q_region (id : Nat) (ops : Array Oper) (dr : Bool) (hd : assocN an.dyn id = none) (ks : List Nat) (m : Nat) (h : assoc an.keep id = some ks) (hm : maskOf ks = m) {l : List Oper} (hl : ops.toList = l) : run an (.region id ops dr) s = behK m (stepsO X an C ops l s) := by
  subst hl
  exact (run_region an s id ops dr hd).trans (beh_eq h hm _)
noncomputable def tailK (an : Ann) (ops : Array Oper) (l : List Oper) : Option S → Option S
  | some s => bif tailOk X an ops l s then stepsO X an C ops l s else none
  | none => none
theorem q_regionE (id : Nat) (ops : Array Oper) (dr : Bool) (p : Nat) (hd : assocN an.dyn id = some p) (ks : List Nat) (m : Nat) (h : assoc an.keep id = some ks) (hm : maskOf ks = m) {l : List Oper} (hl : ops.toList = l) : run an (.region id ops dr) s = behK m (tailK an ops (l.drop p) (stepsO X an C ops (l.take p) s)) := by
  subst hl
  refine (run_regionE an s id ops dr).trans ((beh_eq h hm _).trans (congrArg _ ?_))
  unfold regionE
  rw [hd]
  show (stepsO X an C ops (ops.toList.take p) s).bind _ = _
  generalize stepsO X an C ops (ops.toList.take p) s = x
  cases x <;> rfl
theorem tail_some (ops : Array Oper) (l : List Oper) : tailK an ops l (some s) = bif tailOk X an ops l s then stepsO X an C ops l s else none := rfl
end
theorem gd_eq {ops : Array Oper} {l : List Oper} (hl : ops.toList = l) (j : Nat) : gdst ops j = (l[j]?).bind Oper.dst := by
  subst hl
  unfold gdst
  rw [← Array.getElem?_toList]
theorem argsT_cons (n : Nat) (v : AV) (r : List AV) : argsT n (v :: r) = (n, v) :: argsT (n + 1) r := rfl
attribute [go_sem] X_P outR resR bodyR argsT_cons tail_some ti0 ti1 ti2 ti3 ti4 ti5 ti6 ti7 ti8 ti9 ti10 ti11 ti12 ti13 ti14 ti15 ti16 ti17 ti18 ti19 ti20 ti21 ti22 ti23 ti24 ti25 ti26 ti27 ti28 ti29 ti30 ti31 ti32 ti33 ti34 ti35 ti36 ti37 ti38 ti39 ti40 ti41 ti42 ti43 ti44 ti45 ti46 ti47 ti48 ti49 ti50 ti51 ti52 ti53 ti54 ti55 ti56 ti57 ti58 ti59 ti60
end Go.L25
