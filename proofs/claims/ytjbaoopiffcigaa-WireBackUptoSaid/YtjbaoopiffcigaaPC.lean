/- Layer 25: annotations, context, codes by their parts. Conditions: none. -/
import Derived.Test.YtjbaoopiffcigaaPB
import Derived.Test.YtjbaoopiffcigaaProg
import Derived.KernelRfl
set_option linter.unusedVariables false
set_option maxRecDepth 100000
namespace Go.L25
open Go Go.Eng Go.Proofs
open Nat (reduceShiftRight reduceAnd reduceEqDiff reduceLeDiff)
open Int (reduceToNat)
def annT : Nat → Ann
  | 2 => { keep := [(0, [])], loops := [] }
  | 3 => { keep := [(0, [1]), (1, [1, 9]), (2, [2]), (3, [1, 3, 4]), (4, [3, 4, 5, 6]), (5, [2])], loops := [] }
  | 4 => { keep := [(0, [1]), (1, [1, 13]), (2, [2]), (3, [1, 3, 4]), (4, [1, 3, 4, 5, 6]), (5, [1, 3, 4, 5, 6, 7, 8]), (6, [1, 3, 4, 5, 6, 7, 8, 9, 10]), (7, [2])], loops := [] }
  | 5 => { keep := [(0, [1]), (1, [1, 11]), (2, [2]), (3, [3, 4]), (4, [3, 4, 19]), (5, [2]), (6, [3, 5, 6]), (7, [3, 6, 7, 8]), (8, [2])], loops := [] }
  | 6 => { keep := [(0, [1]), (1, [1, 16]), (2, [2]), (3, [1, 3, 4]), (4, [1, 3, 4, 24]), (5, [2]), (6, [1, 3, 5, 6]), (7, [1, 3, 47]), (8, [2]), (9, [1, 7, 8]), (10, [1, 7, 8, 55]), (11, [2]), (12, [1, 7, 9, 10, 11]), (13, [1, 7, 10, 11, 12, 13]), (14, [2])], loops := [] }
  | 7 => { keep := [(0, [1, 2]), (1, [1, 2]), (2, [1, 2, 5]), (3, [1, 2, 39]), (4, [4]), (5, [1, 2, 6]), (6, [1, 2, 6, 45]), (7, [1, 2, 6]), (8, [1, 2, 6, 55]), (9, [4]), (10, [1, 2, 7]), (11, [1, 2, 7, 64]), (12, [1, 2, 7]), (13, [1, 2, 7]), (14, [4])], loops := [(6, [1, 2, 6]), (11, [1, 2, 7])] }
  | 8 => { keep := [(0, []), (1, [1]), (2, [1, 2, 3]), (3, [1, 2, 3, 4, 5]), (4, [1, 3, 4, 5, 6, 7]), (5, [1, 3, 4, 5, 6, 7, 9]), (6, [1, 3, 4, 5, 6, 7, 9, 10, 11]), (7, [0])], loops := [] }
  | 9 => { keep := [(0, [1, 2]), (1, [1, 2, 4]), (2, [1, 2, 4, 8]), (3, [2, 3]), (4, [2, 3])], loops := [] }
  | 10 => { keep := [(0, [1, 2]), (1, [1, 2, 4]), (2, [1, 2, 4, 8]), (3, [2, 3]), (4, [2, 3])], loops := [] }
  | 11 => { keep := [(0, [2, 3]), (1, [4])], loops := [] }
  | 12 => { keep := [(0, [1, 2]), (1, [1, 2]), (2, [1, 2, 11]), (3, [4]), (4, [1, 2, 5]), (5, [1, 2, 5, 20]), (6, [1, 2, 5]), (7, [1, 2, 5]), (8, [4])], loops := [(5, [1, 2, 5])] }
  | 13 => { keep := [(0, [1, 2]), (1, [1, 2, 4, 5]), (2, [2, 4, 28]), (3, [2, 3]), (4, [2, 3])], loops := [] }
  | 14 => { keep := [(0, [1, 2]), (1, [1, 2, 4]), (2, [2, 4, 17]), (3, [2, 3]), (4, [2, 3])], loops := [] }
  | 15 => { keep := [(0, [1]), (1, [1, 6]), (2, [2, 3]), (3, [2, 3])], loops := [] }
  | 16 => { keep := [(0, [1]), (1, [1, 15]), (2, [2, 3]), (3, [2, 3])], loops := [] }
  | 17 => { keep := [(0, [2, 3]), (1, [2, 3, 55]), (2, [4]), (3, [2, 3, 5]), (4, [2, 3, 5, 60]), (5, [2, 3, 5]), (6, [2, 3, 5, 74]), (7, [4]), (8, [4])], loops := [(4, [2, 3, 5])] }
  | 18 => { keep := [(0, [0]), (1, [3]), (2, [3, 8, 9, 10]), (3, [3, 8, 9, 10, 11]), (4, [3, 4, 5, 8, 9, 10]), (5, [3, 4, 5, 8, 9, 10, 20]), (6, [3, 8, 9, 10]), (7, [3, 8, 9, 10]), (8, [2])], loops := [(3, [3, 8, 9, 10])], wr := [2, 3, 4, 5, 6, 7, 8, 9, 10, 11, 12, 13, 14] }
  | 19 => { keep := [(0, [0]), (1, [3]), (2, [3, 4]), (3, [3, 4, 10]), (4, [3, 4]), (5, [3, 4, 24]), (6, [3, 4]), (7, [2])], loops := [(3, [3, 4])], wr := [2, 3, 4, 5, 6, 7, 8, 9, 10, 11, 12, 13, 14] }
  | 20 => { keep := [(0, [1]), (1, [15]), (2, [2]), (3, [2])], loops := [] }
  | 21 => { keep := [(0, [0]), (1, [0, 10, 11, 12]), (2, [0, 10, 11, 12, 13]), (3, [0, 5, 10, 11, 12]), (4, [0, 6, 10, 11, 12]), (5, [0, 6, 10, 11, 12, 19]), (6, [2, 3]), (7, [0, 10, 11, 12]), (8, [0, 7]), (9, [7, 22, 23, 24]), (10, [7, 22, 23, 24, 25]), (11, [7, 9, 22, 23, 24]), (12, [7, 22, 23, 24]), (13, [7, 22, 23, 24]), (14, [7, 32]), (15, [2, 3]), (16, [2, 3])], loops := [(2, [0, 10, 11, 12]), (10, [7, 22, 23, 24])], ty := [7] }
  | 22 => { keep := [(0, [0, 1, 4]), (1, [0, 1, 4, 14]), (2, [4, 5, 6]), (3, [4, 5, 6])], loops := [] }
  | 23 => { keep := [(0, [1, 2]), (1, [1, 2, 7]), (2, [1, 2, 7, 8]), (3, [1, 2, 7, 8]), (4, [1, 2, 7, 8]), (5, [1, 2, 3]), (6, [1, 2, 3, 13, 14, 15]), (7, [1, 2, 3, 13, 14, 15, 16]), (8, [1, 2, 3, 5, 13, 14, 15]), (9, [1, 2, 3, 13, 14, 15]), (10, [1, 2, 3, 13, 14, 15]), (11, [2]), (12, [1, 2, 7, 29]), (13, [2]), (14, [1, 2, 7, 34]), (15, [2]), (16, [1, 2, 38]), (17, [2]), (18, [2])], loops := [(7, [1, 2, 3, 13, 14, 15])] }
  | 24 => { keep := [(0, [1]), (1, [15]), (2, [2]), (3, [2])], loops := [] }
  | 25 => { keep := [(0, [1, 2]), (1, [1, 2, 3]), (2, [1, 2, 3, 11]), (3, [2, 3]), (4, [1, 2, 3, 11, 20]), (5, [1, 2, 3, 11, 20]), (6, [1, 2, 3, 11, 20]), (7, [1, 2, 3, 4]), (8, [1, 2, 3, 4, 28]), (9, [1, 2, 3, 4]), (10, [1, 2, 3, 4]), (11, [1, 2, 3, 11, 42]), (12, [2]), (13, [1, 2, 3, 11, 47]), (14, [1, 2, 3, 5]), (15, [1, 2, 3, 5, 52]), (16, [1, 2, 3, 5]), (17, [1, 2, 3, 5, 6]), (18, [1, 2, 3, 5, 6, 67]), (19, [1, 2, 3, 5, 6]), (20, [1, 2, 3, 5, 6]), (21, [1, 2, 3, 5, 84]), (22, [1, 2, 3, 5]), (23, [2, 3]), (24, [1, 2, 3, 100]), (25, [1, 2, 3, 104]), (26, [1, 2, 3]), (27, [1, 2, 3, 115]), (28, [1, 2, 3]), (29, [1, 2, 3]), (30, [2, 3, 133]), (31, [2, 3]), (32, [2])], loops := [(8, [1, 2, 3, 4]), (18, [1, 2, 3, 5, 6])] }
  | 26 => { keep := [(0, [0, 1]), (1, [0, 1, 10]), (2, [4]), (3, [0, 1, 5]), (4, [0, 1, 5, 14]), (5, [0, 1, 5]), (6, [0, 1, 5, 26]), (7, [4]), (8, [4])], loops := [(4, [0, 1, 5])] }
  | 27 => { keep := [(0, [1, 2, 4]), (1, [1, 2, 4, 6]), (2, [1, 2, 4, 6, 31]), (3, [4, 5]), (4, [1, 2, 4, 6, 34]), (5, [1, 2, 4, 6, 34, 35]), (6, [1, 2, 4, 6, 34, 35]), (7, [1, 2, 4, 6, 34, 35]), (8, [1, 4, 6, 40, 41, 42]), (9, [1, 4, 6, 40, 41, 42, 43]), (10, [1, 4, 6, 8, 40, 41, 42]), (11, [1, 4, 6, 9, 10, 40, 41, 42]), (12, [1, 4, 6, 9, 40, 41, 42, 54]), (13, [4, 5]), (14, [1, 4, 6, 40, 41, 42]), (15, [1, 4, 6, 40, 41, 42]), (16, [4, 5]), (17, [2, 4, 6, 34, 66]), (18, [2, 4, 6]), (19, [4, 5]), (20, [2, 4, 6, 34, 77]), (21, [4, 6, 11]), (22, [4, 5]), (23, [2, 4, 6, 83]), (24, [4, 6, 12]), (25, [4, 5]), (26, [4, 6, 13]), (27, [4, 5])], loops := [(9, [1, 4, 6, 40, 41, 42])], wr := [61], dyn := [(14, 6), (19, 0)] }
  | 28 => { keep := [(0, [0]), (1, [5, 6, 7]), (2, [5, 6, 7, 8]), (3, [4, 5, 6, 7]), (4, [5, 6, 7, 28]), (5, [2]), (6, [5, 6, 7]), (7, [2])], loops := [(2, [5, 6, 7])] }
  | 29 => { keep := [(0, [1]), (1, [1, 8]), (2, [2]), (3, [10, 11, 12]), (4, [10, 11, 12, 13]), (5, [4, 10, 11, 12]), (6, [10, 11, 12, 18]), (7, [2]), (8, [10, 11, 12]), (9, [2])], loops := [(4, [10, 11, 12])] }
  | 30 => { keep := [(0, [1, 2, 4]), (1, [1, 2, 4, 5]), (2, [1, 2, 4, 5, 6]), (3, [1, 2, 4, 5, 6, 17]), (4, [2, 4, 5, 19]), (5, [2, 4, 5]), (6, [4, 5]), (7, [1, 2, 4, 5, 6, 17, 33]), (8, [1, 2, 4, 5, 6, 17, 33]), (9, [1, 2, 4, 5, 6, 17, 33]), (10, [1, 2, 4, 5, 6, 7]), (11, [1, 2, 4, 5, 6, 7, 43]), (12, [1, 2, 4, 5, 6, 7]), (13, [1, 2, 4, 5, 6, 7]), (14, [2, 4, 5, 6, 17, 59]), (15, [4, 5]), (16, [2, 4, 5, 6, 17, 65]), (17, [2, 4, 5, 68]), (18, [2, 4, 5]), (19, [4, 5]), (20, [2, 4, 5, 6, 83]), (21, [2, 4, 5, 6, 8]), (22, [2, 4, 5, 6, 8, 87]), (23, [2, 4, 5, 6, 8]), (24, [2, 4, 5, 6, 8, 9]), (25, [2, 4, 5, 6, 8, 9, 96]), (26, [2, 4, 5, 6, 8, 9, 96, 97]), (27, [2, 4, 5, 6, 8]), (28, [2, 4, 5, 6, 8, 9, 96, 103]), (29, [2, 4, 5, 6, 8]), (30, [2, 4, 5, 6, 8, 9, 96, 109]), (31, [2, 4, 5, 6, 8]), (32, [2, 4, 5, 6, 8, 9, 114]), (33, [2, 4, 5, 6, 8]), (34, [4])], loops := [(11, [1, 2, 4, 5, 6, 7]), (22, [2, 4, 5, 6, 8])] }
  | 31 => { keep := [(0, [1, 2, 4]), (1, [1, 2, 4, 5]), (2, [1, 2, 4, 5, 6]), (3, [1, 2, 4, 5, 6, 19]), (4, [4]), (5, [1, 2, 4, 5, 6, 22]), (6, [2, 4, 5, 24]), (7, [2, 4, 5, 13]), (8, [2, 4, 5, 13]), (9, [4, 5]), (10, [1, 2, 4, 5, 6, 22, 40]), (11, [1, 2, 4, 5, 6, 22, 40]), (12, [1, 2, 4, 5, 6, 22, 40]), (13, [1, 2, 4, 5, 6, 7]), (14, [1, 2, 4, 5, 6, 7, 8]), (15, [1, 2, 4, 5, 6, 7, 8, 46]), (16, [1, 2, 4, 5, 6, 7, 8]), (17, [1, 2, 4, 5, 6, 7, 8]), (18, [4, 5]), (19, [2, 4, 5, 6, 22, 62]), (20, [4, 5]), (21, [2, 4, 5, 6, 68]), (22, [2, 4, 5, 6, 9]), (23, [2, 4, 5, 6, 9, 10]), (24, [2, 4, 5, 6, 9, 10, 72]), (25, [2, 4, 5, 6, 9, 10]), (26, [2, 4, 5, 6, 9, 10, 11]), (27, [2, 4, 5, 6, 9, 10, 11, 87]), (28, [2, 4, 5, 6, 9, 10, 11]), (29, [2, 4, 5, 6, 9, 10, 11, 105]), (30, [2, 4, 5, 6, 9, 10, 11]), (31, [2, 4, 5, 6, 9, 10, 11, 12]), (32, [2, 4, 5, 6, 9, 10, 11, 138]), (33, [2, 4, 5, 6, 9, 10]), (34, [4, 5]), (35, [4])], loops := [(15, [1, 2, 4, 5, 6, 7, 8]), (24, [2, 4, 5, 6, 9, 10])] }
  | 32 => { keep := [(0, [1, 2, 3, 4]), (1, [8])], loops := [] }
  | 33 => { keep := [(0, [2, 3]), (1, [2, 3, 40]), (2, [4]), (3, [2, 3, 5]), (4, [2, 3, 5, 45]), (5, [2, 3, 5]), (6, [2, 3, 5, 58]), (7, [4]), (8, [4])], loops := [(4, [2, 3, 5])] }
  | 34 => { keep := [(0, [1]), (1, [2])], loops := [] }
  | 35 => { keep := [(0, [1]), (1, [1, 5]), (2, [2]), (3, [2])], loops := [] }
  | 36 => { keep := [(0, [1]), (1, [2])], loops := [] }
  | 37 => { keep := [(0, [1]), (1, [1, 5]), (2, [2]), (3, [1, 9]), (4, [2]), (5, [4]), (6, [19]), (7, [2]), (8, [2])], loops := [] }
  | 38 => { keep := [(0, [0, 3]), (1, [0, 3, 12]), (2, [0, 3, 4]), (3, [0, 3, 4, 5]), (4, [0, 3, 4, 5, 23]), (5, [0, 3, 4]), (6, [0, 3, 4, 6]), (7, [0, 4, 6, 27, 28, 29]), (8, [0, 4, 6, 27, 28, 29, 30]), (9, [0, 4, 6, 8, 27, 28, 29]), (10, [0, 4, 6, 27, 28, 29]), (11, [0, 4, 6, 27, 28, 29]), (12, [0, 4, 6]), (13, [0, 4, 5]), (14, [0, 5]), (15, [0, 5]), (16, [])], loops := [(8, [0, 4, 6, 27, 28, 29])], ty := [6] }
  | 39 => { keep := [(0, [0]), (1, [2])], loops := [] }
  | 40 => { keep := [(0, [0, 1, 2, 6]), (1, [0, 1, 2, 6, 19]), (2, [6, 7, 8]), (3, [0, 1, 2, 6, 9]), (4, [0, 1, 2, 6, 10]), (5, [0, 1, 2, 6, 10, 35]), (6, [6, 7, 8]), (7, [0, 1, 2, 6, 10, 11, 12, 13]), (8, [0, 1, 2, 6, 10, 11, 12, 13, 45]), (9, [6, 7, 8]), (10, [0, 1, 2, 6, 10, 11, 12, 50]), (11, [6, 7, 8]), (12, [0, 2, 6, 10, 11, 12, 58]), (13, [6, 7, 8]), (14, [2, 6, 10, 11, 12, 14]), (15, [2, 6, 10, 11, 12, 14, 74]), (16, [6, 10, 11, 12]), (17, [6, 7, 8]), (18, [2, 6, 10, 11, 12, 14, 86]), (19, [6, 7, 8]), (20, [6, 10, 11, 12, 13, 15]), (21, [6, 10, 11, 12, 13, 15, 96]), (22, [6, 7, 8]), (23, [6, 10, 11, 12]), (24, [6, 7, 8])], loops := [] }
  | 41 => { keep := [(0, [0, 1, 4]), (1, [4, 5]), (2, [4])], loops := [] }
  | 42 => { keep := [(0, [0, 1, 2, 6]), (1, [6, 7]), (2, [6])], loops := [] }
  | 43 => { keep := [(0, [1, 2]), (1, [1, 2, 3]), (2, [1, 2, 3, 4]), (3, [1, 2, 3, 4]), (4, [1, 2, 3, 4, 20, 21, 22]), (5, [1, 2, 3, 4, 20, 21, 22, 23]), (6, [1, 2, 3, 4, 6, 20, 21, 22]), (7, [1, 2, 3, 4, 20, 21, 22]), (8, [1, 2, 3, 4, 20, 21, 22]), (9, [1, 2, 3]), (10, [1, 2, 7]), (11, [2])], loops := [(5, [1, 2, 3, 4, 20, 21, 22])], virt := [3], wr := [3] }
  | 44 => { keep := [(0, [1, 2]), (1, [1, 2, 3]), (2, [1, 2, 3, 8]), (3, [1, 2, 3]), (4, [1, 2, 3, 17]), (5, [1, 2, 3]), (6, [1, 2, 3]), (7, [2, 3, 31]), (8, [2, 3, 4]), (9, [2, 3]), (10, [2])], loops := [] }
  | 45 => { keep := [(0, [1]), (1, [2])], loops := [] }
  | 46 => { keep := [(0, [1]), (1, [1, 5]), (2, [2]), (3, [2])], loops := [] }
  | 47 => { keep := [(0, [1]), (1, [1, 3]), (2, [1, 3, 8]), (3, [1, 3]), (4, [1, 3, 17]), (5, [2]), (6, [2])], loops := [(2, [1, 3])] }
  | 48 => { keep := [(0, [0, 1, 4]), (1, [4])], loops := [] }
  | 49 => { keep := [(0, [0, 2]), (1, [2])], loops := [] }
  | 50 => { keep := [(0, [0, 3]), (1, [0, 5]), (2, [0, 5, 35]), (3, [4]), (4, [0, 5, 6, 7]), (5, [0, 5, 7]), (6, [0, 7, 8]), (7, [0, 7, 8, 51, 52, 53]), (8, [0, 7, 8, 51, 52, 53, 54]), (9, [0, 7, 8, 9, 10, 51, 52, 53]), (10, [4]), (11, [0, 7, 8, 9, 10, 51, 52, 53, 58]), (12, [0, 7, 8, 51, 52, 53]), (13, [0, 7, 8, 9, 10, 51, 52, 53, 75]), (14, [0, 7, 8, 51, 52, 53]), (15, [0, 7, 8, 10, 51, 52, 53, 91]), (16, [0, 7, 8, 51, 52, 53]), (17, [0, 7, 8, 51, 52, 53]), (18, [4])], loops := [(8, [0, 7, 8, 51, 52, 53])] }
  | 51 => { keep := [(0, [0, 3]), (1, [0, 3, 5]), (2, [0, 3, 5, 6]), (3, [0, 5, 6, 12, 13, 14]), (4, [0, 5, 6, 12, 13, 14, 15]), (5, [0, 5, 6, 8, 12, 13, 14]), (6, [0, 6, 8, 12, 13, 14, 36]), (7, [4]), (8, [0, 5, 6, 8, 12, 13, 14]), (9, [0, 5, 6, 8, 12, 13, 14, 40]), (10, [0, 5, 6, 8, 9, 10, 12, 13, 14]), (11, [0, 5, 6, 9, 12, 13, 14, 52]), (12, [4]), (13, [0, 5, 6, 12, 13, 14]), (14, [0, 5, 6, 8, 12, 13, 14, 40, 57]), (15, [0, 5, 6, 12, 13, 14]), (16, [0, 5, 6, 12, 13, 14, 69]), (17, [4]), (18, [0, 5, 6, 8, 12, 13, 14, 40, 70]), (19, [0, 5, 6, 12, 13, 14]), (20, [0, 5, 6, 12, 13, 14, 82]), (21, [4]), (22, [0, 5, 6, 8, 12, 13, 14, 83]), (23, [0, 5, 6, 12, 13, 14]), (24, [0, 5, 6, 12, 13, 14]), (25, [4])], loops := [(4, [0, 5, 6, 12, 13, 14])] }
  | 52 => { keep := [(0, [0, 3]), (1, [0, 5]), (2, [0, 5, 24]), (3, [4]), (4, [0, 5, 6, 7]), (5, [7]), (6, [4])], loops := [] }
  | 53 => { keep := [(0, [0, 2]), (1, [0, 2, 3]), (2, [0, 2, 3, 4]), (3, [0, 2, 3, 4, 9]), (4, [0, 2, 3, 4]), (5, [0, 2, 3, 4, 16]), (6, [0, 2, 3, 4, 16, 17]), (7, [0, 2, 3, 4]), (8, [0, 2, 3, 4]), (9, [0, 2, 3, 4, 16, 26]), (10, [0, 2, 3, 4]), (11, [0, 2, 3, 4, 38]), (12, [0, 2, 3, 4]), (13, [0, 2, 3, 4]), (14, [2])], loops := [(3, [0, 2, 3, 4])] }
  | 54 => { keep := [(0, [1, 2]), (1, [1, 2, 5]), (2, [1, 2, 5, 6]), (3, [1, 2, 5, 6, 15]), (4, [1, 2, 5, 6]), (5, [1, 2, 5, 6]), (6, [4])], loops := [(3, [1, 2, 5, 6])] }
  | 55 => { keep := [(0, [1, 2]), (1, [1, 2]), (2, [1, 2, 5]), (3, [1, 2, 5, 16]), (4, [1, 2, 5]), (5, [1, 2, 5]), (6, [4])], loops := [(3, [1, 2, 5])] }
  | 56 => { keep := [(0, [1]), (1, [1, 3]), (2, [1, 3, 4]), (3, [1, 3, 4, 5]), (4, [1, 3, 4, 5, 22]), (5, [1, 3, 4, 5, 22, 23]), (6, [1, 3, 4, 5, 22, 23]), (7, [1, 3, 4, 5, 22, 23]), (8, [2]), (9, [1, 3, 4, 5, 22, 50]), (10, [1, 3, 4, 5, 22, 50]), (11, [1, 3, 4, 5, 22, 50]), (12, [1, 3, 4, 5, 22, 50]), (13, [2]), (14, [1, 3, 4, 5, 22, 73]), (15, [2]), (16, [1, 3, 4, 5, 22, 92]), (17, [2]), (18, [1, 4, 5, 119]), (19, [2]), (20, [2])], loops := [] }
  | 57 => { keep := [(0, [0, 1]), (1, [4])], loops := [] }
  | 58 => { keep := [(0, [1]), (1, [2])], loops := [] }
  | 59 => { keep := [(0, [1]), (1, [2])], loops := [] }
  | 60 => { keep := [(0, [1]), (1, [1, 22]), (2, [2]), (3, [1, 40]), (4, [2]), (5, [42, 43, 44]), (6, [42, 43, 44, 45]), (7, [4, 42, 43, 44]), (8, [42, 43, 44, 50]), (9, [2]), (10, [42, 43, 44]), (11, [2])], loops := [(6, [42, 43, 44])] }
  | 61 => { keep := [(0, [1]), (1, [1, 4]), (2, [4]), (3, [2, 3])], loops := [], dyn := [(3, 0)], ty := [4] }
  | 62 => { keep := [(0, [0, 1]), (1, [0, 1, 25]), (2, [])], loops := [] }
  | 63 => { keep := [(0, [0]), (1, [0, 3]), (2, [2]), (3, [0, 10]), (4, [2]), (5, [2])], loops := [] }
  | 64 => { keep := [(0, [0, 1]), (1, [0, 1]), (2, [0, 1, 12]), (3, [0, 1, 7]), (4, [0, 1, 7]), (5, [0, 1, 7, 20]), (6, [4, 5, 6]), (7, [0, 1, 8]), (8, [0, 1, 8, 30]), (9, [0, 1, 8, 36]), (10, [0, 1, 7, 8]), (11, [0, 1, 7, 8, 42]), (12, [1, 7, 8]), (13, [1, 7, 8, 56]), (14, [4, 5, 6]), (15, [4, 5, 6]), (16, [4, 5, 6])], loops := [] }
  | 65 => { keep := [(0, [0, 1]), (1, [0, 1, 6]), (2, [0, 1, 6, 7]), (3, [0, 1, 6, 7, 14]), (4, [0, 1, 6, 8, 9, 10]), (5, [0, 1, 6, 8, 9, 10, 24]), (6, [4, 5]), (7, [0, 1, 6, 9]), (8, [0, 1, 6, 7]), (9, [4, 5])], loops := [(3, [0, 1, 6, 7])] }
  | 66 => { keep := [(0, [0, 1, 5, 6]), (1, [6, 7])], loops := [] }
  | 67 => { keep := [(0, [0, 1, 5, 6]), (1, [6, 7])], loops := [] }
  | 68 => { keep := [(0, [1, 2, 3, 7]), (1, [])], loops := [], dyn := [(1, 7)] }
  | 69 => { keep := [(0, [0, 1, 5, 6]), (1, [6, 7])], loops := [] }
  | 70 => { keep := [(0, [1, 2]), (1, [1, 2, 5]), (2, [1, 2, 5, 6]), (3, [1, 2, 5, 6, 16]), (4, [1, 2, 5, 6]), (5, [1, 2, 5, 6, 7]), (6, [1, 2, 5, 6, 7, 29]), (7, [1, 2, 5, 6]), (8, [4])], loops := [(3, [1, 2, 5, 6])] }
  | 71 => { keep := [(0, [1]), (1, [1, 3]), (2, [1, 3, 4]), (3, [1, 3, 4, 13]), (4, [1, 3, 4]), (5, [1, 3, 4]), (6, [3, 25]), (7, [2]), (8, [2])], loops := [(3, [1, 3, 4])] }
  | 72 => { keep := [(0, [1]), (1, [1, 3]), (2, [1, 3, 9]), (3, [1, 3, 9, 10]), (4, [1, 3, 9, 10]), (5, [2]), (6, [1, 3, 15]), (7, [2]), (8, [1, 3, 34]), (9, [2]), (10, [1, 3, 36]), (11, [1, 3, 36, 37]), (12, [1, 3, 36, 37]), (13, [1, 3, 36, 37]), (14, [1, 3, 36, 37]), (15, [2]), (16, [1, 3, 36, 47]), (17, [2]), (18, [1, 3, 36, 54]), (19, [2]), (20, [1, 3, 66]), (21, [1, 3, 4]), (22, [2]), (23, [2])], loops := [] }
  | 73 => { keep := [(0, [1]), (1, [1, 12]), (2, [2, 3]), (3, [2, 3])], loops := [] }
  | 74 => { keep := [(0, [1]), (1, [2])], loops := [] }
  | 75 => { keep := [(0, [0]), (1, [0, 17]), (2, [2]), (3, [0, 3]), (4, [0, 3, 21]), (5, [0, 3]), (6, [0, 3, 4]), (7, [0, 3, 41]), (8, [2]), (9, [2])], loops := [(4, [0, 3])] }
  | 76 => { keep := [(0, [1]), (1, [1, 3]), (2, [1, 3]), (3, [2]), (4, [1, 22]), (5, [1, 22]), (6, [22]), (7, [2]), (8, [2])], loops := [] }
  | 77 => { keep := [(0, [1]), (1, [1, 3]), (2, [2])], loops := [] }
  | 78 => { keep := [(0, [0]), (1, [2])], loops := [] }
  | 79 => { keep := [(0, [0, 1]), (1, [0, 1, 7, 8]), (2, [0, 1, 7, 8, 9]), (3, [0, 1, 5, 7, 8]), (4, [0, 1, 5, 7, 8, 16]), (5, [4]), (6, [0, 1, 7, 8]), (7, [4])], loops := [(2, [0, 1, 7, 8])] }
  | 80 => { keep := [(0, [1, 2]), (1, [1, 2, 9]), (2, [4]), (3, [1, 2, 5]), (4, [1, 5, 11, 12, 13]), (5, [1, 5, 11, 12, 13, 14]), (6, [1, 5, 7, 11, 12, 13]), (7, [1, 5, 11, 12, 13]), (8, [1, 5, 11, 12, 13]), (9, [4])], loops := [(5, [1, 5, 11, 12, 13])] }
  | 81 => { keep := [(0, [0]), (1, [2])], loops := [] }
  | 82 => { keep := [(0, [0, 1]), (1, [0, 1]), (2, [1]), (3, [4, 5])], loops := [], ty := [14] }
  | 83 => { keep := [(0, [0, 1, 2, 6]), (1, [0, 1, 2, 6, 22]), (2, [6, 7]), (3, [2, 6, 8]), (4, [6, 8]), (5, [6, 7])], loops := [] }
  | 84 => { keep := [(0, [])], loops := [] }
  | 85 => { keep := [(0, [0]), (1, [0, 4]), (2, [2]), (3, [2])], loops := [] }
  | 86 => { keep := [(0, [])], loops := [] }
  | 87 => { keep := [(0, [0, 1]), (1, [0, 6]), (2, [])], loops := [] }
  | 88 => { keep := [(0, [0]), (1, [0, 13]), (2, [2]), (3, [0, 3]), (4, [0, 3, 17]), (5, [0, 3]), (6, [0, 3, 4]), (7, [0, 3, 4, 5]), (8, [0, 3, 55]), (9, [2]), (10, [2])], loops := [(4, [0, 3])] }
  | 89 => { keep := [(0, [1, 2, 3, 4, 5]), (1, [3, 5, 36]), (2, [10]), (3, [10])], loops := [] }
  | 90 => { keep := [(0, [1]), (1, [1, 18]), (2, [2]), (3, [1, 3]), (4, [1, 3, 23]), (5, [1, 3]), (6, [1, 3, 32]), (7, [2]), (8, [2])], loops := [(4, [1, 3])] }
  | 91 => { keep := [(0, [1]), (1, [2])], loops := [] }
  | 92 => { keep := [(0, [0]), (1, [2])], loops := [] }
  | 93 => { keep := [(0, [0, 1]), (1, [4])], loops := [] }
  | 94 => { keep := [(0, [0]), (1, [2])], loops := [] }
  | 95 => { keep := [(0, [0, 1]), (1, [4])], loops := [] }
  | 97 => { keep := [(0, [1]), (1, [1, 3]), (2, [1, 3, 9]), (3, [1, 3]), (4, [1, 3, 13]), (5, [1, 3]), (6, [1, 41]), (7, [2]), (8, [1, 4]), (9, [1, 4, 46]), (10, [1, 4]), (11, [1, 4, 55]), (12, [2]), (13, [2])], loops := [(9, [1, 4])] }
  | 98 => { keep := [(0, [0, 1]), (1, [0, 1, 7, 8]), (2, [0, 1, 7, 8, 9]), (3, [0, 1, 5, 7, 8]), (4, [0, 1, 5, 7, 8, 16]), (5, [4]), (6, [0, 1, 7, 8]), (7, [4])], loops := [(2, [0, 1, 7, 8])] }
  | 99 => { keep := [(0, [0, 1]), (1, [0, 1, 7, 8]), (2, [0, 1, 7, 8, 9]), (3, [0, 1, 5, 7, 8]), (4, [0, 1, 5, 7, 8, 16]), (5, [4]), (6, [0, 1, 7, 8]), (7, [4])], loops := [(2, [0, 1, 7, 8])] }
  | _ => {}
def impure : List Nat := [38, 62, 81, 82, 96, 50, 51, 52, 68, 83, 84, 86, 87, 41, 66, 85]
def isNull : AV → Bool
  | .d (.lit (.pointer none)) => true
  | _ => false
def isSelf (loc : Nat) : AV → Bool
  | .tptr t n l off => t == 71 && n == 3 && l == loc && off == 0
  | _ => false
def PTI : TI := ⟨.ptr, 1, 8, some (.pointer none)⟩
def STI : TI := ⟨.slice 5, 1, 24, some (.slice none 0 0)⟩
def primCopyCheck : List AV → Store → Option (AV × Store)
  | [.tptr t n loc off], st => bif t == 71 && n == 3 && off == 0 then
      (ldPtr0 st PTI (.ptr loc 1 0 0)).bind fun a =>
        bif isNull a then stPtr0 st PTI (.ptr loc 1 0 0) (.tptr 71 3 loc 0) else
        bif isSelf loc a then some (.tup [], st) else none
      else none
  | _, _ => none
def bytes8 : List AV → Option (List UInt8)
  | [] => some []
  | .d (.lit (.int .u8 n)) :: r => bif decide (((UInt8.ofNat n.toNat).toNat : Int) = n) then (bytes8 r).map (UInt8.ofNat n.toNat :: ·) else none
  | _ => none
def primString : List AV → Store → Option (AV × Store)
  | [.tptr t n loc off], st => bif t == 71 && n == 3 && off == 0 then
      (ldPtr0 st STI (.ptr loc 1 0 1)).bind fun v => match v with
        | .snil => some (.d (.str []), st)
        | .tsref e l2 ep _ len => bif e == 5 then (getBlk st l2 ep).bind fun b =>
             bif b.row && b.shut && b.es == 1 && len == b.elems.length && !(len == 0) && Nat.ble len 1073741824 then (bytes8 b.elems).map fun l => (.d (.str l), st) else none
           else none
        | _ => none
      else none
  | _, _ => none
def primT (f : Nat) : Option (List AV → Store → Option (AV × Store)) := if f == 96 then some primCopyCheck else if f == 39 then some primString else none
def useL : List Nat := [2, 3, 4, 5, 6, 7, 8, 9, 10, 11, 12, 13, 14, 15, 16, 17, 18, 19, 20, 21, 22, 23, 24, 25, 26, 27, 28, 29, 30, 31, 32, 33, 34, 35, 36, 37, 38, 40, 41, 42, 43, 44, 45, 46, 47, 48, 49, 50, 51, 52, 53, 54, 55, 56, 57, 58, 59, 60, 61, 62, 63, 64, 65, 66, 67, 68, 69, 70, 71, 72, 73, 74, 75, 76, 77, 78, 79, 80, 81, 82, 83, 84, 85, 86, 87, 88, 89, 90, 91, 92, 93, 94, 95, 97, 98, 99]
noncomputable def X : Ctx := ⟨Try.prog, fun f => memN useL f, fun f => !(impure.contains f), primT, annT⟩
theorem ti0 : tiOf Try.prog 0 = some { k := TK.other, size := 1, bytes := 0, zero := some (Value.tuple #[]) } := by kernel_rfl
theorem ti1 : tiOf Try.prog 1 = some { k := TK.fn, size := 1, bytes := 8, zero := some Value.nilFunc } := by kernel_rfl
theorem ti2 : tiOf Try.prog 2 = some { k := TK.int IntKind.i64, size := 1, bytes := 8, zero := some (Value.int IntKind.i64 0) } := by kernel_rfl
theorem ti3 : tiOf Try.prog 3 = some { k := TK.int IntKind.i64, size := 1, bytes := 8, zero := some (Value.int IntKind.i64 0) } := by kernel_rfl
theorem ti4 : tiOf Try.prog 4 = some { k := TK.bool, size := 1, bytes := 1, zero := some (Value.bool false) } := by kernel_rfl
theorem ti5 : tiOf Try.prog 5 = some { k := TK.int IntKind.u8, size := 1, bytes := 1, zero := some (Value.int IntKind.u8 0) } := by kernel_rfl
theorem ti6 : tiOf Try.prog 6 = some { k := TK.int IntKind.u8, size := 1, bytes := 1, zero := some (Value.int IntKind.u8 0) } := by kernel_rfl
theorem ti7 : tiOf Try.prog 7 = some { k := TK.struct (some [(0, 1), (1, 1), (2, 1), (3, 1)]), size := 4, bytes := 24, zero := some (Value.agg #[Value.int IntKind.i64 0, Value.int IntKind.i64 0, Value.bool false, Value.int IntKind.u8 0]) } := by kernel_rfl
theorem ti8 : tiOf Try.prog 8 = some { k := TK.struct (some [(0, 1), (1, 1), (2, 1), (3, 1)]), size := 4, bytes := 24, zero := some (Value.agg #[Value.int IntKind.i64 0, Value.int IntKind.i64 0, Value.bool false, Value.int IntKind.u8 0]) } := by kernel_rfl
theorem ti9 : tiOf Try.prog 9 = some { k := TK.str, size := 1, bytes := 16, zero := some (Value.string ⟨#[]⟩) } := by kernel_rfl
theorem ti10 : tiOf Try.prog 10 = some { k := TK.str, size := 1, bytes := 16, zero := some (Value.string ⟨#[]⟩) } := by kernel_rfl
theorem ti11 : tiOf Try.prog 11 = some { k := TK.str, size := 1, bytes := 16, zero := some (Value.string ⟨#[]⟩) } := by kernel_rfl
theorem ti12 : tiOf Try.prog 12 = some { k := TK.int IntKind.u64, size := 1, bytes := 8, zero := some (Value.int IntKind.u64 0) } := by kernel_rfl
theorem ti13 : tiOf Try.prog 13 = some { k := TK.struct (some [(0, 1), (1, 1)]), size := 2, bytes := 24, zero := some (Value.agg #[Value.string ⟨#[]⟩, Value.int IntKind.u64 0]) } := by kernel_rfl
theorem ti14 : tiOf Try.prog 14 = some { k := TK.struct (some [(0, 1), (1, 1)]), size := 2, bytes := 24, zero := some (Value.agg #[Value.string ⟨#[]⟩, Value.int IntKind.u64 0]) } := by kernel_rfl
theorem ti15 : tiOf Try.prog 15 = some { k := TK.ptr, size := 1, bytes := 8, zero := some (Value.pointer none) } := by kernel_rfl
theorem ti16 : tiOf Try.prog 16 = some { k := TK.ptr, size := 1, bytes := 8, zero := some (Value.pointer none) } := by kernel_rfl
theorem ti17 : tiOf Try.prog 17 = some { k := TK.ptr, size := 1, bytes := 8, zero := some (Value.pointer none) } := by kernel_rfl
theorem ti18 : tiOf Try.prog 18 = some { k := TK.struct (some [(0, 1)]), size := 1, bytes := 8, zero := some (Value.agg #[Value.pointer none]) } := by kernel_rfl
theorem ti19 : tiOf Try.prog 19 = some { k := TK.struct (some [(0, 1)]), size := 1, bytes := 8, zero := some (Value.agg #[Value.pointer none]) } := by kernel_rfl
theorem ti20 : tiOf Try.prog 20 = some { k := TK.other, size := 1, bytes := 16, zero := some Value.nilIface } := by kernel_rfl
theorem ti21 : tiOf Try.prog 21 = some { k := TK.int IntKind.i32, size := 1, bytes := 4, zero := some (Value.int IntKind.i32 0) } := by kernel_rfl
theorem ti22 : tiOf Try.prog 22 = some { k := TK.slice 9, size := 1, bytes := 24, zero := some (Value.slice none 0 0) } := by kernel_rfl
theorem ti23 : tiOf Try.prog 23 = some { k := TK.struct (some [(0, 1), (1, 1), (2, 1), (3, 1), (4, 1)]), size := 5, bytes := 64, zero := some (Value.agg #[Value.string ⟨#[]⟩, Value.slice none 0 0, Value.string ⟨#[]⟩, Value.bool false, Value.bool false]) } := by kernel_rfl
theorem ti24 : tiOf Try.prog 24 = some { k := TK.struct (some [(0, 1), (1, 1), (2, 1), (3, 1), (4, 1)]), size := 5, bytes := 64, zero := some (Value.agg #[Value.string ⟨#[]⟩, Value.slice none 0 0, Value.string ⟨#[]⟩, Value.bool false, Value.bool false]) } := by kernel_rfl
theorem ti25 : tiOf Try.prog 25 = some { k := TK.slice 27, size := 1, bytes := 24, zero := some (Value.slice none 0 0) } := by kernel_rfl
theorem ti26 : tiOf Try.prog 26 = some { k := TK.struct (some [(0, 1), (1, 1), (2, 1), (3, 5), (8, 1), (9, 1), (10, 1)]), size := 11, bytes := 152, zero := some (Value.agg #[Value.int IntKind.i64 0, Value.string ⟨#[]⟩, Value.string ⟨#[]⟩, Value.string ⟨#[]⟩, Value.slice none 0 0, Value.string ⟨#[]⟩, Value.bool false, Value.bool false, Value.string ⟨#[]⟩, Value.bool false, Value.slice none 0 0]) } := by kernel_rfl
theorem ti27 : tiOf Try.prog 27 = some { k := TK.struct (some [(0, 1), (1, 1), (2, 1), (3, 5), (8, 1), (9, 1), (10, 1)]), size := 11, bytes := 152, zero := some (Value.agg #[Value.int IntKind.i64 0, Value.string ⟨#[]⟩, Value.string ⟨#[]⟩, Value.string ⟨#[]⟩, Value.slice none 0 0, Value.string ⟨#[]⟩, Value.bool false, Value.bool false, Value.string ⟨#[]⟩, Value.bool false, Value.slice none 0 0]) } := by kernel_rfl
theorem ti28 : tiOf Try.prog 28 = some { k := TK.fn, size := 1, bytes := 8, zero := some Value.nilFunc } := by kernel_rfl
theorem ti29 : tiOf Try.prog 29 = some { k := TK.fn, size := 1, bytes := 8, zero := some Value.nilFunc } := by kernel_rfl
theorem ti30 : tiOf Try.prog 30 = some { k := TK.slice 32, size := 1, bytes := 24, zero := some (Value.slice none 0 0) } := by kernel_rfl
theorem ti31 : tiOf Try.prog 31 = some { k := TK.struct (some [(0, 1), (1, 1), (2, 1), (3, 1), (4, 1)]), size := 5, bytes := 64, zero := some (Value.agg #[Value.int IntKind.i64 0, Value.bool false, Value.int IntKind.i64 0, Value.string ⟨#[]⟩, Value.slice none 0 0]) } := by kernel_rfl
theorem ti32 : tiOf Try.prog 32 = some { k := TK.struct (some [(0, 1), (1, 1), (2, 1), (3, 1), (4, 1)]), size := 5, bytes := 64, zero := some (Value.agg #[Value.int IntKind.i64 0, Value.bool false, Value.int IntKind.i64 0, Value.string ⟨#[]⟩, Value.slice none 0 0]) } := by kernel_rfl
theorem ti33 : tiOf Try.prog 33 = some { k := TK.int IntKind.i64, size := 1, bytes := 8, zero := some (Value.int IntKind.i64 0) } := by kernel_rfl
theorem ti34 : tiOf Try.prog 34 = some { k := TK.other, size := 1, bytes := 0, zero := some (Value.tuple #[Value.agg { toList := [Value.int IntKind.i64 0, Value.bool false, Value.int IntKind.i64 0, Value.string ⟨#[]⟩, Value.slice none 0 0] }, Value.int IntKind.i64 0]) } := by kernel_rfl
theorem ti35 : tiOf Try.prog 35 = some { k := TK.fn, size := 1, bytes := 8, zero := some Value.nilFunc } := by kernel_rfl
theorem ti36 : tiOf Try.prog 36 = some { k := TK.other, size := 1, bytes := 0, zero := some (Value.tuple #[Value.agg { toList := [Value.int IntKind.i64 0, Value.bool false, Value.int IntKind.i64 0, Value.string ⟨#[]⟩, Value.slice none 0 0] }, Value.int IntKind.i64 0]) } := by kernel_rfl
theorem ti37 : tiOf Try.prog 37 = some { k := TK.fn, size := 1, bytes := 8, zero := some Value.nilFunc } := by kernel_rfl
theorem ti38 : tiOf Try.prog 38 = some { k := TK.fn, size := 1, bytes := 8, zero := some Value.nilFunc } := by kernel_rfl
theorem ti39 : tiOf Try.prog 39 = some { k := TK.fn, size := 1, bytes := 8, zero := some Value.nilFunc } := by kernel_rfl
theorem ti40 : tiOf Try.prog 40 = some { k := TK.fn, size := 1, bytes := 8, zero := some Value.nilFunc } := by kernel_rfl
theorem ti41 : tiOf Try.prog 41 = some { k := TK.other, size := 1, bytes := 0, zero := some (Value.tuple #[Value.agg { toList := [Value.int IntKind.i64 0, Value.string ⟨#[]⟩, Value.string ⟨#[]⟩, Value.string ⟨#[]⟩, Value.slice none 0 0, Value.string ⟨#[]⟩, Value.bool false, Value.bool false, Value.string ⟨#[]⟩, Value.bool false, Value.slice none 0 0] }, Value.int IntKind.i64 0]) } := by kernel_rfl
theorem ti42 : tiOf Try.prog 42 = some { k := TK.fn, size := 1, bytes := 8, zero := some Value.nilFunc } := by kernel_rfl
theorem ti43 : tiOf Try.prog 43 = some { k := TK.other, size := 1, bytes := 0, zero := some (Value.tuple #[Value.agg { toList := [Value.int IntKind.i64 0, Value.string ⟨#[]⟩, Value.string ⟨#[]⟩, Value.string ⟨#[]⟩, Value.slice none 0 0, Value.string ⟨#[]⟩, Value.bool false, Value.bool false, Value.string ⟨#[]⟩, Value.bool false, Value.slice none 0 0] }, Value.int IntKind.i64 0]) } := by kernel_rfl
theorem ti44 : tiOf Try.prog 44 = some { k := TK.fn, size := 1, bytes := 8, zero := some Value.nilFunc } := by kernel_rfl
theorem ti45 : tiOf Try.prog 45 = some { k := TK.other, size := 1, bytes := 0, zero := some (Value.tuple #[Value.string ⟨#[]⟩, Value.bool false]) } := by kernel_rfl
theorem ti46 : tiOf Try.prog 46 = some { k := TK.fn, size := 1, bytes := 8, zero := some Value.nilFunc } := by kernel_rfl
theorem ti47 : tiOf Try.prog 47 = some { k := TK.fn, size := 1, bytes := 8, zero := some Value.nilFunc } := by kernel_rfl
theorem ti48 : tiOf Try.prog 48 = some { k := TK.fn, size := 1, bytes := 8, zero := some Value.nilFunc } := by kernel_rfl
theorem ti49 : tiOf Try.prog 49 = some { k := TK.fn, size := 1, bytes := 8, zero := some Value.nilFunc } := by kernel_rfl
theorem ti50 : tiOf Try.prog 50 = some { k := TK.fn, size := 1, bytes := 8, zero := some Value.nilFunc } := by kernel_rfl
theorem ti51 : tiOf Try.prog 51 = some { k := TK.other, size := 1, bytes := 0, zero := some (Value.tuple #[Value.string ⟨#[]⟩, Value.int IntKind.i64 0]) } := by kernel_rfl
theorem ti52 : tiOf Try.prog 52 = some { k := TK.fn, size := 1, bytes := 8, zero := some Value.nilFunc } := by kernel_rfl
theorem ti53 : tiOf Try.prog 53 = some { k := TK.other, size := 1, bytes := 0, zero := some (Value.tuple #[Value.agg { toList := [Value.int IntKind.i64 0, Value.bool false, Value.int IntKind.i64 0, Value.string ⟨#[]⟩, Value.slice none 0 0] }, Value.int IntKind.i64 0, Value.int IntKind.i64 0]) } := by kernel_rfl
theorem ti54 : tiOf Try.prog 54 = some { k := TK.fn, size := 1, bytes := 8, zero := some Value.nilFunc } := by kernel_rfl
theorem ti55 : tiOf Try.prog 55 = some { k := TK.fn, size := 1, bytes := 8, zero := some Value.nilFunc } := by kernel_rfl
theorem ti56 : tiOf Try.prog 56 = some { k := TK.fn, size := 1, bytes := 8, zero := some Value.nilFunc } := by kernel_rfl
theorem ti57 : tiOf Try.prog 57 = some { k := TK.fn, size := 1, bytes := 8, zero := some Value.nilFunc } := by kernel_rfl
theorem ti58 : tiOf Try.prog 58 = some { k := TK.other, size := 1, bytes := 0, zero := some (Value.tuple #[Value.agg { toList := [Value.int IntKind.i64 0, Value.string ⟨#[]⟩, Value.string ⟨#[]⟩, Value.string ⟨#[]⟩, Value.slice none 0 0, Value.string ⟨#[]⟩, Value.bool false, Value.bool false, Value.string ⟨#[]⟩, Value.bool false, Value.slice none 0 0] }, Value.bool false]) } := by kernel_rfl
theorem ti59 : tiOf Try.prog 59 = some { k := TK.fn, size := 1, bytes := 8, zero := some Value.nilFunc } := by kernel_rfl
theorem ti60 : tiOf Try.prog 60 = some { k := TK.fn, size := 1, bytes := 8, zero := some Value.nilFunc } := by kernel_rfl
theorem X_P : X.P = Try.prog := rfl
noncomputable def C : Eng.Call := callL X
noncomputable def run (an : Ann) (c : Code) (s : S) : Option (Ex × S) := runL X an c s
noncomputable def iter (an : Ann) (c : Code) (s : S) : Option S := (run an c s).bind fun r => match r.1 with
  | .norm => some (headS an c s.st.length r.2)
  | _ => none
noncomputable def outR : List AV → AV
    | [v] => v
    | l => .tup l
noncomputable def resR (rs : List ResultVar) (s : S) : R := ((resAll Try.prog s rs).map outR).map fun v => (v, s.st)
noncomputable def bodyR (rs : List ResultVar) : Ex × S → R
  | (.norm, s) => resR rs s
  | (.ret, s) => resR rs s
  | _ => none
theorem C_eq {f : FuncId} (fn : Func) {c : Code} {rs : Array ResultVar} (hu : memN useL f = true) (hf : Try.prog.funcs[f]? = some fn) (hb : fn.body = some c) (hr : fn.results = rs) (args : List AV) (st : Store) :
    C f args st = (run (annT f) c ⟨argsT 0 args, st⟩).bind (bodyR rs.toList) := by
  subst hr
  refine (callL_eq (X := X) hu hf hb args st).trans ?_
  congr 1
theorem P_eq {f : FuncId} (fn : Func) {c : Code} {rs : Array ResultVar} (hu : memN useL f = true) (hf : Try.prog.funcs[f]? = some fn) (hb : fn.body = some c) (hr : fn.results = rs) (ds : List D) :
    pureCall C f ds = ((run (annT f) c ⟨argsT 0 (ds.map .d), []⟩).bind (bodyR rs.toList)).bind prOf := by
  rw [← C_eq fn hu hf hb hr]; rfl
section
variable (an : Ann) (a b : Code) (s : S)
theorem run_region (id : Nat) (ops : Array Oper) (dr : Bool) (hd : assocN an.dyn id = none) : run an (.region id ops dr) s = (stepsO X an C ops ops.toList s).map fun s' => (.norm, behindS an id s') := runL_region id ops dr s hd
theorem run_regionE (id : Nat) (ops : Array Oper) (dr : Bool) : run an (.region id ops dr) s = (regionE X an C id ops s).map fun s' => (.norm, behindS an id s') := runL_regionE id ops dr s
theorem run_seq : run an (.seq a b) s = (run an a s).bind fun r => match r.1 with
    | .norm => run an b r.2
    | e => some (e, r.2) := runL_seq a b s
theorem run_cond (c : Operand) : run an (.cond c a b) s = (asB (opv s.t c)).bind fun t => bif t then run an a s else run an b s := runL_cond c a b s
theorem run_block (id : Nat) : run an (.block id a) s = (run an a s).map fun r => match r.1 with
    | .exit j => bif j == id then (.norm, r.2) else (.exit j, r.2)
    | e => (e, r.2) := runL_block id a s
theorem run_loop : run an (.loop a) s = (run an a s).bind fun r => match r.1 with
    | .norm => run an (.loop a) (headS an a s.st.length r.2)
    | e => some (e, r.2) := runL_loop a s
theorem run_scope : run an (.scope a) s = (run an a s).bind fun r => match r.1 with
    | .goto l => (match findLabel a l with
      | some rest => (run an rest r.2).bind fun r => match r.1 with
        | .goto _ => none
        | e => some (e, r.2)
      | none => none)
    | e => some (e, r.2) := runL_scope a s
theorem run_skip : run an .skip s = some (.norm, s) := runL_skip s
theorem run_label (l : Nat) : run an (.label l) s = some (.norm, s) := runL_label l s
theorem run_exit (l : Nat) : run an (.exit l) s = some (.exit l, s) := runL_exit l s
theorem run_goto (l : Nat) : run an (.goto l) s = some (.goto l, s) := runL_goto l s
theorem run_ret : run an .ret s = some (.ret, s) := runL_ret s
end
theorem loop_at {an : Ann} {c : Code} {s : S} {r : Ex × S} (n : Nat) (σ : Nat → S) (h0 : s = σ 0) (h1 : ∀ i, i < n → iter an c (σ i) = some (σ (i + 1))) (h2 : run an c (σ n) = some r) (h3 : ∀ s, r ≠ (.norm, s)) :
    run an (.loop c) s = some r := by
  subst h0
  induction n generalizing σ with
  | zero =>
    rw [run_loop, h2]
    obtain ⟨e, s⟩ := r
    cases e with
    | norm => exact absurd rfl (h3 s)
    | _ => rfl
  | succ n ih =>
    have h := h1 0 (by omega)
    unfold iter at h
    obtain ⟨⟨e, t⟩, h4, h5⟩ := Option.bind_eq_some_iff.1 h
    rw [run_loop, h4]
    cases e with
    | norm =>
      simp only [Option.some.injEq] at h5
      simp only [Option.bind_some]
      rw [h5]
      exact ih (fun i => σ (i + 1)) (fun i hi => h1 (i + 1) (by omega)) h2
    | _ => cases h5
def isT : Option (AV × Store) → Bool
  | some (.d (.lit (.bool true)), _) => true
  | _ => false
theorem ctxAll : useL.all (funcOk X) = true := by kernel_rfl
theorem ctxOk : CtxOk X := fun f hf => List.all_eq_true.1 ctxAll f (by
  have : ∀ l : List Nat, memN l f = true → f ∈ l := by
    intro l
    induction l with
    | nil => intro h; cases h
    | cons a r ih =>
      intro h
      simp only [memN, Bool.or_eq_true, beq_iff_eq] at h
      rcases h with h | h
      · rw [h]; exact List.mem_cons_self
      · exact List.mem_cons_of_mem _ (ih h)
  exact this _ hf)
section
variable (an : Ann) (a b : Code) (s : S)
theorem q_seq : run an (.seq a b) s = contK (run an b) (run an a s) := (run_seq an a b s).trans (cont_eq (run an b) _)
theorem q_cond (c : Operand) : run an (.cond c a b) s = condK (opv s.t c) (run an a) (run an b) s := run_cond an a b s c
theorem q_block (id : Nat) : run an (.block id a) s = blkK id (run an a s) := run_block an a s id
theorem q_loop (ks : List Nat) (m : Nat) (h : assoc an.loops (firstRid a) = some ks) (hm : maskOf ks = m) : run an (.loop a) s = loopK m s.st.length (run an (.loop a)) (run an a s) := (run_loop an a s).trans (loop_eq h hm _ _ _)
theorem q_region (id : Nat) (ops : Array Oper) (dr : Bool) (hd : assocN an.dyn id = none) (ks : List Nat) (m : Nat) (h : assoc an.keep id = some ks) (hm : maskOf ks = m) {l : List Oper} (hl : ops.toList = l) : run an (.region id ops dr) s = behK m (stepsO X an C ops l s) := by
  subst hl
  exact (run_region an s id ops dr hd).trans (beh_eq h hm _)
noncomputable def tailK (an : Ann) (ops : Array Oper) (l : List Oper) : Option S → Option S
  | some s => bif tailOk X an ops l s then stepsO X an C ops l s else none
  | none => none
theorem q_regionE (id : Nat) (ops : Array Oper) (dr : Bool) (p : Nat) (hd : assocN an.dyn id = some p) (ks : List Nat) (m : Nat) (h : assoc an.keep id = some ks) (hm : maskOf ks = m) {l : List Oper} (hl : ops.toList = l) : run an (.region id ops dr) s = behK m (tailK an ops (l.drop p) (stepsO X an C ops (l.take p) s)) := by
  subst hl
  refine (run_regionE an s id ops dr).trans ((beh_eq h hm _).trans (congrArg _ ?_))
  unfold regionE
  rw [hd]
  show (stepsO X an C ops (ops.toList.take p) s).bind _ = _
  generalize stepsO X an C ops (ops.toList.take p) s = x
  cases x <;> rfl
theorem tail_some (ops : Array Oper) (l : List Oper) : tailK an ops l (some s) = bif tailOk X an ops l s then stepsO X an C ops l s else none := rfl
end
theorem gd_eq {ops : Array Oper} {l : List Oper} (hl : ops.toList = l) (j : Nat) : gdst ops j = (l[j]?).bind Oper.dst := by
  subst hl
  unfold gdst
  rw [← Array.getElem?_toList]
theorem argsT_cons (n : Nat) (v : AV) (r : List AV) : argsT n (v :: r) = (n, v) :: argsT (n + 1) r := rfl
attribute [go_sem] X_P outR resR bodyR argsT_cons tail_some ti0 ti1 ti2 ti3 ti4 ti5 ti6 ti7 ti8 ti9 ti10 ti11 ti12 ti13 ti14 ti15 ti16 ti17 ti18 ti19 ti20 ti21 ti22 ti23 ti24 ti25 ti26 ti27 ti28 ti29 ti30 ti31 ti32 ti33 ti34 ti35 ti36 ti37 ti38 ti39 ti40 ti41 ti42 ti43 ti44 ti45 ti46 ti47 ti48 ti49 ti50 ti51 ti52 ti53 ti54 ti55 ti56 ti57 ti58 ti59 ti60
abbrev OL (c : Code) := {l : List Oper // (gO c).toList = l}
set_option maxRecDepth 100000
noncomputable section
variable (s : S) (j : Nat)
noncomputable def c34_0 : Code := Try.f34.body.getD .skip
noncomputable def A34 := run (annT 34)
def n34_0 := A34 c34_0
def c34_1 := gL c34_0
def n34_1 := A34 c34_1
def o34_1 : OL c34_1 := ⟨_, by conv => (lhs; whnf)⟩
def c34_2 := gR c34_0
def n34_2 := A34 c34_2
def c34_3 := gL c34_2
def n34_3 := A34 c34_3
def o34_3 : OL c34_3 := ⟨_, by conv => (lhs; whnf)⟩
def c34_4 := gR c34_2
def n34_4 := A34 c34_4
theorem r_n34_1 : n34_1 s = behK 2 (stepsO X (annT 34) C (gO c34_1) o34_1.1 s) := q_region (annT 34) s 0 _ false rfl _ _ rfl rfl o34_1.2
theorem g_o34_1 : gdst (gO c34_1) j = (o34_1.1[j]?).bind Oper.dst := gd_eq o34_1.2 j
theorem r_n34_3 : n34_3 s = behK 4 (stepsO X (annT 34) C (gO c34_3) o34_3.1 s) := q_region (annT 34) s 1 _ false rfl _ _ rfl rfl o34_3.2
theorem g_o34_3 : gdst (gO c34_3) j = (o34_3.1[j]?).bind Oper.dst := gd_eq o34_3.2 j
theorem r_n34_4 : n34_4 s = some (.ret, s) := run_ret _ s
theorem r_n34_2 : n34_2 s = contK n34_4 (n34_3 s) := q_seq _ c34_3 c34_4 s
theorem r_n34_0 : n34_0 s = contK n34_2 (n34_1 s) := q_seq _ c34_1 c34_2 s
theorem va_34 : (annT 34).virt = [] := rfl
theorem wa_34 : (annT 34).wr = [] := rfl
theorem ya_34 : (annT 34).ty = [] := rfl
theorem cv_34 (call : Eng.Call) (wr : Bool) (args : List AV) (st : Store) : callV X call wr 34 args st = cvP call wr 34 args st (fzAll (fz false st 6) args) := cv_pure rfl rfl call wr args st
theorem p34 (ds : List D) : pureCall C 34 ds = ((n34_0 ⟨argsT 0 (ds.map .d), []⟩).bind (bodyR [.tmp 2])).bind prOf := P_eq Try.f34 rfl rfl rfl rfl ds
theorem q34 (vs : List AV) (st : Store) : C 34 vs st = (n34_0 ⟨argsT 0 vs, st⟩).bind (bodyR [.tmp 2]) := C_eq Try.f34 rfl rfl rfl rfl vs st
attribute [go_sem] r_n34_1 g_o34_1 o34_1 r_n34_3 g_o34_3 o34_3 r_n34_4 r_n34_2 r_n34_0 va_34 wa_34 ya_34 cv_34
noncomputable def c35_0 : Code := Try.f35.body.getD .skip
noncomputable def A35 := run (annT 35)
def n35_0 := A35 c35_0
def c35_1 := gL c35_0
def n35_1 := A35 c35_1
def o35_1 : OL c35_1 := ⟨_, by conv => (lhs; whnf)⟩
def c35_2 := gR c35_0
def n35_2 := A35 c35_2
def c35_3 := gL c35_2
def n35_3 := A35 c35_3
def c35_4 := gL c35_3
def n35_4 := A35 c35_4
def o35_4 : OL c35_4 := ⟨_, by conv => (lhs; whnf)⟩
def c35_5 := gR c35_3
def n35_5 := A35 c35_5
def c35_6 := gT c35_5
def n35_6 := A35 c35_6
def c35_7 := gL c35_6
def n35_7 := A35 c35_7
def o35_7 : OL c35_7 := ⟨_, by conv => (lhs; whnf)⟩
def c35_8 := gR c35_6
def n35_8 := A35 c35_8
def c35_9 := gF c35_5
def n35_9 := A35 c35_9
def c35_10 := gR c35_2
def n35_10 := A35 c35_10
def c35_11 := gL c35_10
def n35_11 := A35 c35_11
def o35_11 : OL c35_11 := ⟨_, by conv => (lhs; whnf)⟩
def c35_12 := gR c35_10
def n35_12 := A35 c35_12
theorem r_n35_1 : n35_1 s = behK 2 (stepsO X (annT 35) C (gO c35_1) o35_1.1 s) := q_region (annT 35) s 0 _ false rfl _ _ rfl rfl o35_1.2
theorem g_o35_1 : gdst (gO c35_1) j = (o35_1.1[j]?).bind Oper.dst := gd_eq o35_1.2 j
theorem r_n35_4 : n35_4 s = behK 34 (stepsO X (annT 35) C (gO c35_4) o35_4.1 s) := q_region (annT 35) s 1 _ false rfl _ _ rfl rfl o35_4.2
theorem g_o35_4 : gdst (gO c35_4) j = (o35_4.1[j]?).bind Oper.dst := gd_eq o35_4.2 j
theorem r_n35_7 : n35_7 s = behK 4 (stepsO X (annT 35) C (gO c35_7) o35_7.1 s) := q_region (annT 35) s 2 _ false rfl _ _ rfl rfl o35_7.2
theorem g_o35_7 : gdst (gO c35_7) j = (o35_7.1[j]?).bind Oper.dst := gd_eq o35_7.2 j
theorem r_n35_8 : n35_8 s = some (.ret, s) := run_ret _ s
theorem r_n35_6 : n35_6 s = contK n35_8 (n35_7 s) := q_seq _ c35_7 c35_8 s
theorem r_n35_9 : n35_9 s = some (.norm, s) := run_skip _ s
theorem r_n35_5 : n35_5 s = condK (opv s.t (.tmp 5)) n35_6 n35_9 s := q_cond _ c35_6 c35_9 s (.tmp 5)
theorem r_n35_3 : n35_3 s = contK n35_5 (n35_4 s) := q_seq _ c35_4 c35_5 s
theorem r_n35_11 : n35_11 s = behK 4 (stepsO X (annT 35) C (gO c35_11) o35_11.1 s) := q_region (annT 35) s 3 _ false rfl _ _ rfl rfl o35_11.2
theorem g_o35_11 : gdst (gO c35_11) j = (o35_11.1[j]?).bind Oper.dst := gd_eq o35_11.2 j
theorem r_n35_12 : n35_12 s = some (.ret, s) := run_ret _ s
theorem r_n35_10 : n35_10 s = contK n35_12 (n35_11 s) := q_seq _ c35_11 c35_12 s
theorem r_n35_2 : n35_2 s = contK n35_10 (n35_3 s) := q_seq _ c35_3 c35_10 s
theorem r_n35_0 : n35_0 s = contK n35_2 (n35_1 s) := q_seq _ c35_1 c35_2 s
theorem va_35 : (annT 35).virt = [] := rfl
theorem wa_35 : (annT 35).wr = [] := rfl
theorem ya_35 : (annT 35).ty = [] := rfl
theorem cv_35 (call : Eng.Call) (wr : Bool) (args : List AV) (st : Store) : callV X call wr 35 args st = cvP call wr 35 args st (fzAll (fz false st 6) args) := cv_pure rfl rfl call wr args st
theorem p35 (ds : List D) : pureCall C 35 ds = ((n35_0 ⟨argsT 0 (ds.map .d), []⟩).bind (bodyR [.tmp 2])).bind prOf := P_eq Try.f35 rfl rfl rfl rfl ds
theorem q35 (vs : List AV) (st : Store) : C 35 vs st = (n35_0 ⟨argsT 0 vs, st⟩).bind (bodyR [.tmp 2]) := C_eq Try.f35 rfl rfl rfl rfl vs st
attribute [go_sem] r_n35_1 g_o35_1 o35_1 r_n35_4 g_o35_4 o35_4 r_n35_7 g_o35_7 o35_7 r_n35_8 r_n35_6 r_n35_9 r_n35_5 r_n35_3 r_n35_11 g_o35_11 o35_11 r_n35_12 r_n35_10 r_n35_2 r_n35_0 va_35 wa_35 ya_35 cv_35
noncomputable def c54_0 : Code := Try.f54.body.getD .skip
noncomputable def A54 := run (annT 54)
def n54_0 := A54 c54_0
def c54_1 := gL c54_0
def n54_1 := A54 c54_1
def o54_1 : OL c54_1 := ⟨_, by conv => (lhs; whnf)⟩
def c54_2 := gR c54_0
def n54_2 := A54 c54_2
def c54_3 := gL c54_2
def n54_3 := A54 c54_3
def o54_3 : OL c54_3 := ⟨_, by conv => (lhs; whnf)⟩
def c54_4 := gR c54_2
def n54_4 := A54 c54_4
def c54_5 := gL c54_4
def n54_5 := A54 c54_5
def c54_6 := gL c54_5
def n54_6 := A54 c54_6
def o54_6 : OL c54_6 := ⟨_, by conv => (lhs; whnf)⟩
def c54_7 := gR c54_5
def n54_7 := A54 c54_7
def c54_8 := gB c54_7
def n54_8 := A54 c54_8
def c54_9 := gB c54_8
def n54_9 := A54 c54_9
def c54_10 := gL c54_9
def n54_10 := A54 c54_10
def c54_11 := gL c54_10
def n54_11 := A54 c54_11
def o54_11 : OL c54_11 := ⟨_, by conv => (lhs; whnf)⟩
def c54_12 := gR c54_10
def n54_12 := A54 c54_12
def c54_13 := gT c54_12
def n54_13 := A54 c54_13
def c54_14 := gF c54_12
def n54_14 := A54 c54_14
def c54_15 := gR c54_9
def n54_15 := A54 c54_15
def c54_16 := gL c54_15
def n54_16 := A54 c54_16
def c54_17 := gB c54_16
def n54_17 := A54 c54_17
def o54_17 : OL c54_17 := ⟨_, by conv => (lhs; whnf)⟩
def c54_18 := gR c54_15
def n54_18 := A54 c54_18
def o54_18 : OL c54_18 := ⟨_, by conv => (lhs; whnf)⟩
def c54_19 := gR c54_4
def n54_19 := A54 c54_19
def c54_20 := gL c54_19
def n54_20 := A54 c54_20
def o54_20 : OL c54_20 := ⟨_, by conv => (lhs; whnf)⟩
def c54_21 := gR c54_19
def n54_21 := A54 c54_21
theorem r_n54_1 : n54_1 s = behK 6 (stepsO X (annT 54) C (gO c54_1) o54_1.1 s) := q_region (annT 54) s 0 _ false rfl _ _ rfl rfl o54_1.2
theorem g_o54_1 : gdst (gO c54_1) j = (o54_1.1[j]?).bind Oper.dst := gd_eq o54_1.2 j
theorem r_n54_3 : n54_3 s = behK 38 (stepsO X (annT 54) C (gO c54_3) o54_3.1 s) := q_region (annT 54) s 1 _ false rfl _ _ rfl rfl o54_3.2
theorem g_o54_3 : gdst (gO c54_3) j = (o54_3.1[j]?).bind Oper.dst := gd_eq o54_3.2 j
theorem r_n54_6 : n54_6 s = behK 102 (stepsO X (annT 54) C (gO c54_6) o54_6.1 s) := q_region (annT 54) s 2 _ false rfl _ _ rfl rfl o54_6.2
theorem g_o54_6 : gdst (gO c54_6) j = (o54_6.1[j]?).bind Oper.dst := gd_eq o54_6.2 j
theorem r_n54_11 : n54_11 s = behK 32870 (stepsO X (annT 54) C (gO c54_11) o54_11.1 s) := q_region (annT 54) s 3 _ false rfl _ _ rfl rfl o54_11.2
theorem g_o54_11 : gdst (gO c54_11) j = (o54_11.1[j]?).bind Oper.dst := gd_eq o54_11.2 j
theorem r_n54_13 : n54_13 s = some (.norm, s) := run_skip _ s
theorem r_n54_14 : n54_14 s = some (.exit 0, s) := run_exit _ s 0
theorem r_n54_12 : n54_12 s = condK (opv s.t (.tmp 15)) n54_13 n54_14 s := q_cond _ c54_13 c54_14 s (.tmp 15)
theorem r_n54_10 : n54_10 s = contK n54_12 (n54_11 s) := q_seq _ c54_11 c54_12 s
theorem r_n54_17 : n54_17 s = behK 102 (stepsO X (annT 54) C (gO c54_17) o54_17.1 s) := q_region (annT 54) s 5 _ false rfl _ _ rfl rfl o54_17.2
theorem g_o54_17 : gdst (gO c54_17) j = (o54_17.1[j]?).bind Oper.dst := gd_eq o54_17.2 j
theorem r_n54_16 : n54_16 s = blkK 1 (n54_17 s) := q_block _ c54_17 s 1
theorem r_n54_18 : n54_18 s = behK 102 (stepsO X (annT 54) C (gO c54_18) o54_18.1 s) := q_region (annT 54) s 4 _ false rfl _ _ rfl rfl o54_18.2
theorem g_o54_18 : gdst (gO c54_18) j = (o54_18.1[j]?).bind Oper.dst := gd_eq o54_18.2 j
theorem r_n54_15 : n54_15 s = contK n54_18 (n54_16 s) := q_seq _ c54_16 c54_18 s
theorem r_n54_9 : n54_9 s = contK n54_15 (n54_10 s) := q_seq _ c54_10 c54_15 s
theorem r_n54_8 : n54_8 s = loopK 102 s.st.length n54_8 (n54_9 s) := q_loop (annT 54) c54_9 s _ _ rfl rfl
theorem r_n54_7 : n54_7 s = blkK 0 (n54_8 s) := q_block _ c54_8 s 0
theorem r_n54_5 : n54_5 s = contK n54_7 (n54_6 s) := q_seq _ c54_6 c54_7 s
theorem r_n54_20 : n54_20 s = behK 16 (stepsO X (annT 54) C (gO c54_20) o54_20.1 s) := q_region (annT 54) s 6 _ false rfl _ _ rfl rfl o54_20.2
theorem g_o54_20 : gdst (gO c54_20) j = (o54_20.1[j]?).bind Oper.dst := gd_eq o54_20.2 j
theorem r_n54_21 : n54_21 s = some (.ret, s) := run_ret _ s
theorem r_n54_19 : n54_19 s = contK n54_21 (n54_20 s) := q_seq _ c54_20 c54_21 s
theorem r_n54_4 : n54_4 s = contK n54_19 (n54_5 s) := q_seq _ c54_5 c54_19 s
theorem r_n54_2 : n54_2 s = contK n54_4 (n54_3 s) := q_seq _ c54_3 c54_4 s
theorem r_n54_0 : n54_0 s = contK n54_2 (n54_1 s) := q_seq _ c54_1 c54_2 s
theorem va_54 : (annT 54).virt = [] := rfl
theorem wa_54 : (annT 54).wr = [] := rfl
theorem ya_54 : (annT 54).ty = [] := rfl
theorem cv_54 (call : Eng.Call) (wr : Bool) (args : List AV) (st : Store) : callV X call wr 54 args st = cvP call wr 54 args st (fzAll (fz false st 6) args) := cv_pure rfl rfl call wr args st
theorem p54 (ds : List D) : pureCall C 54 ds = ((n54_0 ⟨argsT 0 (ds.map .d), []⟩).bind (bodyR [.tmp 4])).bind prOf := P_eq Try.f54 rfl rfl rfl rfl ds
theorem q54 (vs : List AV) (st : Store) : C 54 vs st = (n54_0 ⟨argsT 0 vs, st⟩).bind (bodyR [.tmp 4]) := C_eq Try.f54 rfl rfl rfl rfl vs st
attribute [go_sem] r_n54_1 g_o54_1 o54_1 r_n54_3 g_o54_3 o54_3 r_n54_6 g_o54_6 o54_6 r_n54_11 g_o54_11 o54_11 r_n54_13 r_n54_14 r_n54_12 r_n54_10 r_n54_17 g_o54_17 o54_17 r_n54_16 r_n54_18 g_o54_18 o54_18 r_n54_15 r_n54_9 r_n54_7 r_n54_5 r_n54_20 g_o54_20 o54_20 r_n54_21 r_n54_19 r_n54_4 r_n54_2 r_n54_0 va_54 wa_54 ya_54 cv_54
noncomputable def c55_0 : Code := Try.f55.body.getD .skip
noncomputable def A55 := run (annT 55)
def n55_0 := A55 c55_0
def c55_1 := gL c55_0
def n55_1 := A55 c55_1
def o55_1 : OL c55_1 := ⟨_, by conv => (lhs; whnf)⟩
def c55_2 := gR c55_0
def n55_2 := A55 c55_2
def c55_3 := gL c55_2
def n55_3 := A55 c55_3
def o55_3 : OL c55_3 := ⟨_, by conv => (lhs; whnf)⟩
def c55_4 := gR c55_2
def n55_4 := A55 c55_4
def c55_5 := gL c55_4
def n55_5 := A55 c55_5
def c55_6 := gL c55_5
def n55_6 := A55 c55_6
def o55_6 : OL c55_6 := ⟨_, by conv => (lhs; whnf)⟩
def c55_7 := gR c55_5
def n55_7 := A55 c55_7
def c55_8 := gB c55_7
def n55_8 := A55 c55_8
def c55_9 := gB c55_8
def n55_9 := A55 c55_9
def c55_10 := gL c55_9
def n55_10 := A55 c55_10
def c55_11 := gL c55_10
def n55_11 := A55 c55_11
def o55_11 : OL c55_11 := ⟨_, by conv => (lhs; whnf)⟩
def c55_12 := gR c55_10
def n55_12 := A55 c55_12
def c55_13 := gT c55_12
def n55_13 := A55 c55_13
def c55_14 := gF c55_12
def n55_14 := A55 c55_14
def c55_15 := gR c55_9
def n55_15 := A55 c55_15
def c55_16 := gL c55_15
def n55_16 := A55 c55_16
def c55_17 := gB c55_16
def n55_17 := A55 c55_17
def o55_17 : OL c55_17 := ⟨_, by conv => (lhs; whnf)⟩
def c55_18 := gR c55_15
def n55_18 := A55 c55_18
def o55_18 : OL c55_18 := ⟨_, by conv => (lhs; whnf)⟩
def c55_19 := gR c55_4
def n55_19 := A55 c55_19
def c55_20 := gL c55_19
def n55_20 := A55 c55_20
def o55_20 : OL c55_20 := ⟨_, by conv => (lhs; whnf)⟩
def c55_21 := gR c55_19
def n55_21 := A55 c55_21
theorem r_n55_1 : n55_1 s = behK 6 (stepsO X (annT 55) C (gO c55_1) o55_1.1 s) := q_region (annT 55) s 0 _ false rfl _ _ rfl rfl o55_1.2
theorem g_o55_1 : gdst (gO c55_1) j = (o55_1.1[j]?).bind Oper.dst := gd_eq o55_1.2 j
theorem r_n55_3 : n55_3 s = behK 6 (stepsO X (annT 55) C (gO c55_3) o55_3.1 s) := q_region (annT 55) s 1 _ false rfl _ _ rfl rfl o55_3.2
theorem g_o55_3 : gdst (gO c55_3) j = (o55_3.1[j]?).bind Oper.dst := gd_eq o55_3.2 j
theorem r_n55_6 : n55_6 s = behK 38 (stepsO X (annT 55) C (gO c55_6) o55_6.1 s) := q_region (annT 55) s 2 _ false rfl _ _ rfl rfl o55_6.2
theorem g_o55_6 : gdst (gO c55_6) j = (o55_6.1[j]?).bind Oper.dst := gd_eq o55_6.2 j
theorem r_n55_11 : n55_11 s = behK 65574 (stepsO X (annT 55) C (gO c55_11) o55_11.1 s) := q_region (annT 55) s 3 _ false rfl _ _ rfl rfl o55_11.2
theorem g_o55_11 : gdst (gO c55_11) j = (o55_11.1[j]?).bind Oper.dst := gd_eq o55_11.2 j
theorem r_n55_13 : n55_13 s = some (.norm, s) := run_skip _ s
theorem r_n55_14 : n55_14 s = some (.exit 0, s) := run_exit _ s 0
theorem r_n55_12 : n55_12 s = condK (opv s.t (.tmp 16)) n55_13 n55_14 s := q_cond _ c55_13 c55_14 s (.tmp 16)
theorem r_n55_10 : n55_10 s = contK n55_12 (n55_11 s) := q_seq _ c55_11 c55_12 s
theorem r_n55_17 : n55_17 s = behK 38 (stepsO X (annT 55) C (gO c55_17) o55_17.1 s) := q_region (annT 55) s 5 _ false rfl _ _ rfl rfl o55_17.2
theorem g_o55_17 : gdst (gO c55_17) j = (o55_17.1[j]?).bind Oper.dst := gd_eq o55_17.2 j
theorem r_n55_16 : n55_16 s = blkK 1 (n55_17 s) := q_block _ c55_17 s 1
theorem r_n55_18 : n55_18 s = behK 38 (stepsO X (annT 55) C (gO c55_18) o55_18.1 s) := q_region (annT 55) s 4 _ false rfl _ _ rfl rfl o55_18.2
theorem g_o55_18 : gdst (gO c55_18) j = (o55_18.1[j]?).bind Oper.dst := gd_eq o55_18.2 j
theorem r_n55_15 : n55_15 s = contK n55_18 (n55_16 s) := q_seq _ c55_16 c55_18 s
theorem r_n55_9 : n55_9 s = contK n55_15 (n55_10 s) := q_seq _ c55_10 c55_15 s
theorem r_n55_8 : n55_8 s = loopK 38 s.st.length n55_8 (n55_9 s) := q_loop (annT 55) c55_9 s _ _ rfl rfl
theorem r_n55_7 : n55_7 s = blkK 0 (n55_8 s) := q_block _ c55_8 s 0
theorem r_n55_5 : n55_5 s = contK n55_7 (n55_6 s) := q_seq _ c55_6 c55_7 s
theorem r_n55_20 : n55_20 s = behK 16 (stepsO X (annT 55) C (gO c55_20) o55_20.1 s) := q_region (annT 55) s 6 _ false rfl _ _ rfl rfl o55_20.2
theorem g_o55_20 : gdst (gO c55_20) j = (o55_20.1[j]?).bind Oper.dst := gd_eq o55_20.2 j
theorem r_n55_21 : n55_21 s = some (.ret, s) := run_ret _ s
theorem r_n55_19 : n55_19 s = contK n55_21 (n55_20 s) := q_seq _ c55_20 c55_21 s
theorem r_n55_4 : n55_4 s = contK n55_19 (n55_5 s) := q_seq _ c55_5 c55_19 s
theorem r_n55_2 : n55_2 s = contK n55_4 (n55_3 s) := q_seq _ c55_3 c55_4 s
theorem r_n55_0 : n55_0 s = contK n55_2 (n55_1 s) := q_seq _ c55_1 c55_2 s
theorem va_55 : (annT 55).virt = [] := rfl
theorem wa_55 : (annT 55).wr = [] := rfl
theorem ya_55 : (annT 55).ty = [] := rfl
theorem cv_55 (call : Eng.Call) (wr : Bool) (args : List AV) (st : Store) : callV X call wr 55 args st = cvP call wr 55 args st (fzAll (fz false st 6) args) := cv_pure rfl rfl call wr args st
theorem p55 (ds : List D) : pureCall C 55 ds = ((n55_0 ⟨argsT 0 (ds.map .d), []⟩).bind (bodyR [.tmp 4])).bind prOf := P_eq Try.f55 rfl rfl rfl rfl ds
theorem q55 (vs : List AV) (st : Store) : C 55 vs st = (n55_0 ⟨argsT 0 vs, st⟩).bind (bodyR [.tmp 4]) := C_eq Try.f55 rfl rfl rfl rfl vs st
attribute [go_sem] r_n55_1 g_o55_1 o55_1 r_n55_3 g_o55_3 o55_3 r_n55_6 g_o55_6 o55_6 r_n55_11 g_o55_11 o55_11 r_n55_13 r_n55_14 r_n55_12 r_n55_10 r_n55_17 g_o55_17 o55_17 r_n55_16 r_n55_18 g_o55_18 o55_18 r_n55_15 r_n55_9 r_n55_7 r_n55_5 r_n55_20 g_o55_20 o55_20 r_n55_21 r_n55_19 r_n55_4 r_n55_2 r_n55_0 va_55 wa_55 ya_55 cv_55
noncomputable def c75_0 : Code := Try.f75.body.getD .skip
noncomputable def A75 := run (annT 75)
def n75_0 := A75 c75_0
def c75_1 := gL c75_0
def n75_1 := A75 c75_1
def o75_1 : OL c75_1 := ⟨_, by conv => (lhs; whnf)⟩
def c75_2 := gR c75_0
def n75_2 := A75 c75_2
def c75_3 := gL c75_2
def n75_3 := A75 c75_3
def c75_4 := gL c75_3
def n75_4 := A75 c75_4
def o75_4 : OL c75_4 := ⟨_, by conv => (lhs; whnf)⟩
def c75_5 := gR c75_3
def n75_5 := A75 c75_5
def c75_6 := gT c75_5
def n75_6 := A75 c75_6
def c75_7 := gL c75_6
def n75_7 := A75 c75_7
def o75_7 : OL c75_7 := ⟨_, by conv => (lhs; whnf)⟩
def c75_8 := gR c75_6
def n75_8 := A75 c75_8
def c75_9 := gF c75_5
def n75_9 := A75 c75_9
def c75_10 := gR c75_2
def n75_10 := A75 c75_10
def c75_11 := gL c75_10
def n75_11 := A75 c75_11
def c75_12 := gL c75_11
def n75_12 := A75 c75_12
def o75_12 : OL c75_12 := ⟨_, by conv => (lhs; whnf)⟩
def c75_13 := gR c75_11
def n75_13 := A75 c75_13
def c75_14 := gB c75_13
def n75_14 := A75 c75_14
def c75_15 := gB c75_14
def n75_15 := A75 c75_15
def c75_16 := gL c75_15
def n75_16 := A75 c75_16
def c75_17 := gL c75_16
def n75_17 := A75 c75_17
def o75_17 : OL c75_17 := ⟨_, by conv => (lhs; whnf)⟩
def c75_18 := gR c75_16
def n75_18 := A75 c75_18
def c75_19 := gT c75_18
def n75_19 := A75 c75_19
def c75_20 := gF c75_18
def n75_20 := A75 c75_20
def c75_21 := gR c75_15
def n75_21 := A75 c75_21
def c75_22 := gL c75_21
def n75_22 := A75 c75_22
def c75_23 := gB c75_22
def n75_23 := A75 c75_23
def c75_24 := gL c75_23
def n75_24 := A75 c75_24
def o75_24 : OL c75_24 := ⟨_, by conv => (lhs; whnf)⟩
def c75_25 := gR c75_23
def n75_25 := A75 c75_25
def c75_26 := gL c75_25
def n75_26 := A75 c75_26
def o75_26 : OL c75_26 := ⟨_, by conv => (lhs; whnf)⟩
def c75_27 := gR c75_25
def n75_27 := A75 c75_27
def c75_28 := gT c75_27
def n75_28 := A75 c75_28
def c75_29 := gL c75_28
def n75_29 := A75 c75_29
def o75_29 : OL c75_29 := ⟨_, by conv => (lhs; whnf)⟩
def c75_30 := gR c75_28
def n75_30 := A75 c75_30
def c75_31 := gF c75_27
def n75_31 := A75 c75_31
def c75_32 := gR c75_21
def n75_32 := A75 c75_32
def o75_32 : OL c75_32 := ⟨_, by conv => (lhs; whnf)⟩
def c75_33 := gR c75_10
def n75_33 := A75 c75_33
def c75_34 := gL c75_33
def n75_34 := A75 c75_34
def o75_34 : OL c75_34 := ⟨_, by conv => (lhs; whnf)⟩
def c75_35 := gR c75_33
def n75_35 := A75 c75_35
theorem r_n75_1 : n75_1 s = behK 1 (stepsO X (annT 75) C (gO c75_1) o75_1.1 s) := q_region (annT 75) s 0 _ false rfl _ _ rfl rfl o75_1.2
theorem g_o75_1 : gdst (gO c75_1) j = (o75_1.1[j]?).bind Oper.dst := gd_eq o75_1.2 j
theorem r_n75_4 : n75_4 s = behK 131073 (stepsO X (annT 75) C (gO c75_4) o75_4.1 s) := q_region (annT 75) s 1 _ false rfl _ _ rfl rfl o75_4.2
theorem g_o75_4 : gdst (gO c75_4) j = (o75_4.1[j]?).bind Oper.dst := gd_eq o75_4.2 j
theorem r_n75_7 : n75_7 s = behK 4 (stepsO X (annT 75) C (gO c75_7) o75_7.1 s) := q_region (annT 75) s 2 _ false rfl _ _ rfl rfl o75_7.2
theorem g_o75_7 : gdst (gO c75_7) j = (o75_7.1[j]?).bind Oper.dst := gd_eq o75_7.2 j
theorem r_n75_8 : n75_8 s = some (.ret, s) := run_ret _ s
theorem r_n75_6 : n75_6 s = contK n75_8 (n75_7 s) := q_seq _ c75_7 c75_8 s
theorem r_n75_9 : n75_9 s = some (.norm, s) := run_skip _ s
theorem r_n75_5 : n75_5 s = condK (opv s.t (.tmp 17)) n75_6 n75_9 s := q_cond _ c75_6 c75_9 s (.tmp 17)
theorem r_n75_3 : n75_3 s = contK n75_5 (n75_4 s) := q_seq _ c75_4 c75_5 s
theorem r_n75_12 : n75_12 s = behK 9 (stepsO X (annT 75) C (gO c75_12) o75_12.1 s) := q_region (annT 75) s 3 _ false rfl _ _ rfl rfl o75_12.2
theorem g_o75_12 : gdst (gO c75_12) j = (o75_12.1[j]?).bind Oper.dst := gd_eq o75_12.2 j
theorem r_n75_17 : n75_17 s = behK 2097161 (stepsO X (annT 75) C (gO c75_17) o75_17.1 s) := q_region (annT 75) s 4 _ false rfl _ _ rfl rfl o75_17.2
theorem g_o75_17 : gdst (gO c75_17) j = (o75_17.1[j]?).bind Oper.dst := gd_eq o75_17.2 j
theorem r_n75_19 : n75_19 s = some (.norm, s) := run_skip _ s
theorem r_n75_20 : n75_20 s = some (.exit 0, s) := run_exit _ s 0
theorem r_n75_18 : n75_18 s = condK (opv s.t (.tmp 21)) n75_19 n75_20 s := q_cond _ c75_19 c75_20 s (.tmp 21)
theorem r_n75_16 : n75_16 s = contK n75_18 (n75_17 s) := q_seq _ c75_17 c75_18 s
theorem r_n75_24 : n75_24 s = behK 25 (stepsO X (annT 75) C (gO c75_24) o75_24.1 s) := q_region (annT 75) s 6 _ false rfl _ _ rfl rfl o75_24.2
theorem g_o75_24 : gdst (gO c75_24) j = (o75_24.1[j]?).bind Oper.dst := gd_eq o75_24.2 j
theorem r_n75_26 : n75_26 s = behK 2199023255561 (stepsO X (annT 75) C (gO c75_26) o75_26.1 s) := q_region (annT 75) s 7 _ false rfl _ _ rfl rfl o75_26.2
theorem g_o75_26 : gdst (gO c75_26) j = (o75_26.1[j]?).bind Oper.dst := gd_eq o75_26.2 j
theorem r_n75_29 : n75_29 s = behK 4 (stepsO X (annT 75) C (gO c75_29) o75_29.1 s) := q_region (annT 75) s 8 _ false rfl _ _ rfl rfl o75_29.2
theorem g_o75_29 : gdst (gO c75_29) j = (o75_29.1[j]?).bind Oper.dst := gd_eq o75_29.2 j
theorem r_n75_30 : n75_30 s = some (.ret, s) := run_ret _ s
theorem r_n75_28 : n75_28 s = contK n75_30 (n75_29 s) := q_seq _ c75_29 c75_30 s
theorem r_n75_31 : n75_31 s = some (.norm, s) := run_skip _ s
theorem r_n75_27 : n75_27 s = condK (opv s.t (.tmp 41)) n75_28 n75_31 s := q_cond _ c75_28 c75_31 s (.tmp 41)
theorem r_n75_25 : n75_25 s = contK n75_27 (n75_26 s) := q_seq _ c75_26 c75_27 s
theorem r_n75_23 : n75_23 s = contK n75_25 (n75_24 s) := q_seq _ c75_24 c75_25 s
theorem r_n75_22 : n75_22 s = blkK 1 (n75_23 s) := q_block _ c75_23 s 1
theorem r_n75_32 : n75_32 s = behK 9 (stepsO X (annT 75) C (gO c75_32) o75_32.1 s) := q_region (annT 75) s 5 _ false rfl _ _ rfl rfl o75_32.2
theorem g_o75_32 : gdst (gO c75_32) j = (o75_32.1[j]?).bind Oper.dst := gd_eq o75_32.2 j
theorem r_n75_21 : n75_21 s = contK n75_32 (n75_22 s) := q_seq _ c75_22 c75_32 s
theorem r_n75_15 : n75_15 s = contK n75_21 (n75_16 s) := q_seq _ c75_16 c75_21 s
theorem r_n75_14 : n75_14 s = loopK 9 s.st.length n75_14 (n75_15 s) := q_loop (annT 75) c75_15 s _ _ rfl rfl
theorem r_n75_13 : n75_13 s = blkK 0 (n75_14 s) := q_block _ c75_14 s 0
theorem r_n75_11 : n75_11 s = contK n75_13 (n75_12 s) := q_seq _ c75_12 c75_13 s
theorem r_n75_34 : n75_34 s = behK 4 (stepsO X (annT 75) C (gO c75_34) o75_34.1 s) := q_region (annT 75) s 9 _ false rfl _ _ rfl rfl o75_34.2
theorem g_o75_34 : gdst (gO c75_34) j = (o75_34.1[j]?).bind Oper.dst := gd_eq o75_34.2 j
theorem r_n75_35 : n75_35 s = some (.ret, s) := run_ret _ s
theorem r_n75_33 : n75_33 s = contK n75_35 (n75_34 s) := q_seq _ c75_34 c75_35 s
theorem r_n75_10 : n75_10 s = contK n75_33 (n75_11 s) := q_seq _ c75_11 c75_33 s
theorem r_n75_2 : n75_2 s = contK n75_10 (n75_3 s) := q_seq _ c75_3 c75_10 s
theorem r_n75_0 : n75_0 s = contK n75_2 (n75_1 s) := q_seq _ c75_1 c75_2 s
theorem va_75 : (annT 75).virt = [] := rfl
theorem wa_75 : (annT 75).wr = [] := rfl
theorem ya_75 : (annT 75).ty = [] := rfl
theorem cv_75 (call : Eng.Call) (wr : Bool) (args : List AV) (st : Store) : callV X call wr 75 args st = cvP call wr 75 args st (fzAll (fz false st 6) args) := cv_pure rfl rfl call wr args st
theorem p75 (ds : List D) : pureCall C 75 ds = ((n75_0 ⟨argsT 0 (ds.map .d), []⟩).bind (bodyR [.tmp 2])).bind prOf := P_eq Try.f75 rfl rfl rfl rfl ds
theorem q75 (vs : List AV) (st : Store) : C 75 vs st = (n75_0 ⟨argsT 0 vs, st⟩).bind (bodyR [.tmp 2]) := C_eq Try.f75 rfl rfl rfl rfl vs st
attribute [go_sem] r_n75_1 g_o75_1 o75_1 r_n75_4 g_o75_4 o75_4 r_n75_7 g_o75_7 o75_7 r_n75_8 r_n75_6 r_n75_9 r_n75_5 r_n75_3 r_n75_12 g_o75_12 o75_12 r_n75_17 g_o75_17 o75_17 r_n75_19 r_n75_20 r_n75_18 r_n75_16 r_n75_24 g_o75_24 o75_24 r_n75_26 g_o75_26 o75_26 r_n75_29 g_o75_29 o75_29 r_n75_30 r_n75_28 r_n75_31 r_n75_27 r_n75_25 r_n75_23 r_n75_22 r_n75_32 g_o75_32 o75_32 r_n75_21 r_n75_15 r_n75_13 r_n75_11 r_n75_34 g_o75_34 o75_34 r_n75_35 r_n75_33 r_n75_10 r_n75_2 r_n75_0 va_75 wa_75 ya_75 cv_75
noncomputable def c92_0 : Code := Try.f92.body.getD .skip
noncomputable def A92 := run (annT 92)
def n92_0 := A92 c92_0
def c92_1 := gL c92_0
def n92_1 := A92 c92_1
def o92_1 : OL c92_1 := ⟨_, by conv => (lhs; whnf)⟩
def c92_2 := gR c92_0
def n92_2 := A92 c92_2
def c92_3 := gL c92_2
def n92_3 := A92 c92_3
def o92_3 : OL c92_3 := ⟨_, by conv => (lhs; whnf)⟩
def c92_4 := gR c92_2
def n92_4 := A92 c92_4
theorem r_n92_1 : n92_1 s = behK 1 (stepsO X (annT 92) C (gO c92_1) o92_1.1 s) := q_region (annT 92) s 0 _ false rfl _ _ rfl rfl o92_1.2
theorem g_o92_1 : gdst (gO c92_1) j = (o92_1.1[j]?).bind Oper.dst := gd_eq o92_1.2 j
theorem r_n92_3 : n92_3 s = behK 4 (stepsO X (annT 92) C (gO c92_3) o92_3.1 s) := q_region (annT 92) s 1 _ false rfl _ _ rfl rfl o92_3.2
theorem g_o92_3 : gdst (gO c92_3) j = (o92_3.1[j]?).bind Oper.dst := gd_eq o92_3.2 j
theorem r_n92_4 : n92_4 s = some (.ret, s) := run_ret _ s
theorem r_n92_2 : n92_2 s = contK n92_4 (n92_3 s) := q_seq _ c92_3 c92_4 s
theorem r_n92_0 : n92_0 s = contK n92_2 (n92_1 s) := q_seq _ c92_1 c92_2 s
theorem va_92 : (annT 92).virt = [] := rfl
theorem wa_92 : (annT 92).wr = [] := rfl
theorem ya_92 : (annT 92).ty = [] := rfl
theorem cv_92 (call : Eng.Call) (wr : Bool) (args : List AV) (st : Store) : callV X call wr 92 args st = cvP call wr 92 args st (fzAll (fz false st 6) args) := cv_pure rfl rfl call wr args st
theorem p92 (ds : List D) : pureCall C 92 ds = ((n92_0 ⟨argsT 0 (ds.map .d), []⟩).bind (bodyR [.tmp 2])).bind prOf := P_eq Try.f92 rfl rfl rfl rfl ds
theorem q92 (vs : List AV) (st : Store) : C 92 vs st = (n92_0 ⟨argsT 0 vs, st⟩).bind (bodyR [.tmp 2]) := C_eq Try.f92 rfl rfl rfl rfl vs st
attribute [go_sem] r_n92_1 g_o92_1 o92_1 r_n92_3 g_o92_3 o92_3 r_n92_4 r_n92_2 r_n92_0 va_92 wa_92 ya_92 cv_92
noncomputable def c94_0 : Code := Try.f94.body.getD .skip
noncomputable def A94 := run (annT 94)
def n94_0 := A94 c94_0
def c94_1 := gL c94_0
def n94_1 := A94 c94_1
def o94_1 : OL c94_1 := ⟨_, by conv => (lhs; whnf)⟩
def c94_2 := gR c94_0
def n94_2 := A94 c94_2
def c94_3 := gL c94_2
def n94_3 := A94 c94_3
def o94_3 : OL c94_3 := ⟨_, by conv => (lhs; whnf)⟩
def c94_4 := gR c94_2
def n94_4 := A94 c94_4
theorem r_n94_1 : n94_1 s = behK 1 (stepsO X (annT 94) C (gO c94_1) o94_1.1 s) := q_region (annT 94) s 0 _ false rfl _ _ rfl rfl o94_1.2
theorem g_o94_1 : gdst (gO c94_1) j = (o94_1.1[j]?).bind Oper.dst := gd_eq o94_1.2 j
theorem r_n94_3 : n94_3 s = behK 4 (stepsO X (annT 94) C (gO c94_3) o94_3.1 s) := q_region (annT 94) s 1 _ false rfl _ _ rfl rfl o94_3.2
theorem g_o94_3 : gdst (gO c94_3) j = (o94_3.1[j]?).bind Oper.dst := gd_eq o94_3.2 j
theorem r_n94_4 : n94_4 s = some (.ret, s) := run_ret _ s
theorem r_n94_2 : n94_2 s = contK n94_4 (n94_3 s) := q_seq _ c94_3 c94_4 s
theorem r_n94_0 : n94_0 s = contK n94_2 (n94_1 s) := q_seq _ c94_1 c94_2 s
theorem va_94 : (annT 94).virt = [] := rfl
theorem wa_94 : (annT 94).wr = [] := rfl
theorem ya_94 : (annT 94).ty = [] := rfl
theorem cv_94 (call : Eng.Call) (wr : Bool) (args : List AV) (st : Store) : callV X call wr 94 args st = cvP call wr 94 args st (fzAll (fz false st 6) args) := cv_pure rfl rfl call wr args st
theorem p94 (ds : List D) : pureCall C 94 ds = ((n94_0 ⟨argsT 0 (ds.map .d), []⟩).bind (bodyR [.tmp 2])).bind prOf := P_eq Try.f94 rfl rfl rfl rfl ds
theorem q94 (vs : List AV) (st : Store) : C 94 vs st = (n94_0 ⟨argsT 0 vs, st⟩).bind (bodyR [.tmp 2]) := C_eq Try.f94 rfl rfl rfl rfl vs st
attribute [go_sem] r_n94_1 g_o94_1 o94_1 r_n94_3 g_o94_3 o94_3 r_n94_4 r_n94_2 r_n94_0 va_94 wa_94 ya_94 cv_94
noncomputable def c98_0 : Code := Try.f98.body.getD .skip
noncomputable def A98 := run (annT 98)
def n98_0 := A98 c98_0
def c98_1 := gL c98_0
def n98_1 := A98 c98_1
def o98_1 : OL c98_1 := ⟨_, by conv => (lhs; whnf)⟩
def c98_2 := gR c98_0
def n98_2 := A98 c98_2
def c98_3 := gL c98_2
def n98_3 := A98 c98_3
def c98_4 := gL c98_3
def n98_4 := A98 c98_4
def o98_4 : OL c98_4 := ⟨_, by conv => (lhs; whnf)⟩
def c98_5 := gR c98_3
def n98_5 := A98 c98_5
def c98_6 := gB c98_5
def n98_6 := A98 c98_6
def c98_7 := gB c98_6
def n98_7 := A98 c98_7
def c98_8 := gL c98_7
def n98_8 := A98 c98_8
def o98_8 : OL c98_8 := ⟨_, by conv => (lhs; whnf)⟩
def c98_9 := gR c98_7
def n98_9 := A98 c98_9
def c98_10 := gL c98_9
def n98_10 := A98 c98_10
def c98_11 := gT c98_10
def n98_11 := A98 c98_11
def c98_12 := gF c98_10
def n98_12 := A98 c98_12
def c98_13 := gR c98_9
def n98_13 := A98 c98_13
def c98_14 := gL c98_13
def n98_14 := A98 c98_14
def c98_15 := gB c98_14
def n98_15 := A98 c98_15
def c98_16 := gL c98_15
def n98_16 := A98 c98_16
def o98_16 : OL c98_16 := ⟨_, by conv => (lhs; whnf)⟩
def c98_17 := gR c98_15
def n98_17 := A98 c98_17
def c98_18 := gL c98_17
def n98_18 := A98 c98_18
def o98_18 : OL c98_18 := ⟨_, by conv => (lhs; whnf)⟩
def c98_19 := gR c98_17
def n98_19 := A98 c98_19
def c98_20 := gT c98_19
def n98_20 := A98 c98_20
def c98_21 := gL c98_20
def n98_21 := A98 c98_21
def o98_21 : OL c98_21 := ⟨_, by conv => (lhs; whnf)⟩
def c98_22 := gR c98_20
def n98_22 := A98 c98_22
def c98_23 := gF c98_19
def n98_23 := A98 c98_23
def c98_24 := gR c98_13
def n98_24 := A98 c98_24
def o98_24 : OL c98_24 := ⟨_, by conv => (lhs; whnf)⟩
def c98_25 := gR c98_2
def n98_25 := A98 c98_25
def c98_26 := gL c98_25
def n98_26 := A98 c98_26
def o98_26 : OL c98_26 := ⟨_, by conv => (lhs; whnf)⟩
def c98_27 := gR c98_25
def n98_27 := A98 c98_27
theorem r_n98_1 : n98_1 s = behK 3 (stepsO X (annT 98) C (gO c98_1) o98_1.1 s) := q_region (annT 98) s 0 _ false rfl _ _ rfl rfl o98_1.2
theorem g_o98_1 : gdst (gO c98_1) j = (o98_1.1[j]?).bind Oper.dst := gd_eq o98_1.2 j
theorem r_n98_4 : n98_4 s = behK 387 (stepsO X (annT 98) C (gO c98_4) o98_4.1 s) := q_region (annT 98) s 1 _ false rfl _ _ rfl rfl o98_4.2
theorem g_o98_4 : gdst (gO c98_4) j = (o98_4.1[j]?).bind Oper.dst := gd_eq o98_4.2 j
theorem r_n98_8 : n98_8 s = behK 899 (stepsO X (annT 98) C (gO c98_8) o98_8.1 s) := q_region (annT 98) s 2 _ false rfl _ _ rfl rfl o98_8.2
theorem g_o98_8 : gdst (gO c98_8) j = (o98_8.1[j]?).bind Oper.dst := gd_eq o98_8.2 j
theorem r_n98_11 : n98_11 s = some (.norm, s) := run_skip _ s
theorem r_n98_12 : n98_12 s = some (.exit 0, s) := run_exit _ s 0
theorem r_n98_10 : n98_10 s = condK (opv s.t (.tmp 9)) n98_11 n98_12 s := q_cond _ c98_11 c98_12 s (.tmp 9)
theorem r_n98_16 : n98_16 s = behK 419 (stepsO X (annT 98) C (gO c98_16) o98_16.1 s) := q_region (annT 98) s 3 _ false rfl _ _ rfl rfl o98_16.2
theorem g_o98_16 : gdst (gO c98_16) j = (o98_16.1[j]?).bind Oper.dst := gd_eq o98_16.2 j
theorem r_n98_18 : n98_18 s = behK 65955 (stepsO X (annT 98) C (gO c98_18) o98_18.1 s) := q_region (annT 98) s 4 _ false rfl _ _ rfl rfl o98_18.2
theorem g_o98_18 : gdst (gO c98_18) j = (o98_18.1[j]?).bind Oper.dst := gd_eq o98_18.2 j
theorem r_n98_21 : n98_21 s = behK 16 (stepsO X (annT 98) C (gO c98_21) o98_21.1 s) := q_region (annT 98) s 5 _ false rfl _ _ rfl rfl o98_21.2
theorem g_o98_21 : gdst (gO c98_21) j = (o98_21.1[j]?).bind Oper.dst := gd_eq o98_21.2 j
theorem r_n98_22 : n98_22 s = some (.ret, s) := run_ret _ s
theorem r_n98_20 : n98_20 s = contK n98_22 (n98_21 s) := q_seq _ c98_21 c98_22 s
theorem r_n98_23 : n98_23 s = some (.norm, s) := run_skip _ s
theorem r_n98_19 : n98_19 s = condK (opv s.t (.tmp 16)) n98_20 n98_23 s := q_cond _ c98_20 c98_23 s (.tmp 16)
theorem r_n98_17 : n98_17 s = contK n98_19 (n98_18 s) := q_seq _ c98_18 c98_19 s
theorem r_n98_15 : n98_15 s = contK n98_17 (n98_16 s) := q_seq _ c98_16 c98_17 s
theorem r_n98_14 : n98_14 s = blkK 1 (n98_15 s) := q_block _ c98_15 s 1
theorem r_n98_24 : n98_24 s = behK 387 (stepsO X (annT 98) C (gO c98_24) o98_24.1 s) := q_region (annT 98) s 6 _ false rfl _ _ rfl rfl o98_24.2
theorem g_o98_24 : gdst (gO c98_24) j = (o98_24.1[j]?).bind Oper.dst := gd_eq o98_24.2 j
theorem r_n98_13 : n98_13 s = contK n98_24 (n98_14 s) := q_seq _ c98_14 c98_24 s
theorem r_n98_9 : n98_9 s = contK n98_13 (n98_10 s) := q_seq _ c98_10 c98_13 s
theorem r_n98_7 : n98_7 s = contK n98_9 (n98_8 s) := q_seq _ c98_8 c98_9 s
theorem r_n98_6 : n98_6 s = loopK 387 s.st.length n98_6 (n98_7 s) := q_loop (annT 98) c98_7 s _ _ rfl rfl
theorem r_n98_5 : n98_5 s = blkK 0 (n98_6 s) := q_block _ c98_6 s 0
theorem r_n98_3 : n98_3 s = contK n98_5 (n98_4 s) := q_seq _ c98_4 c98_5 s
theorem r_n98_26 : n98_26 s = behK 16 (stepsO X (annT 98) C (gO c98_26) o98_26.1 s) := q_region (annT 98) s 7 _ false rfl _ _ rfl rfl o98_26.2
theorem g_o98_26 : gdst (gO c98_26) j = (o98_26.1[j]?).bind Oper.dst := gd_eq o98_26.2 j
theorem r_n98_27 : n98_27 s = some (.ret, s) := run_ret _ s
theorem r_n98_25 : n98_25 s = contK n98_27 (n98_26 s) := q_seq _ c98_26 c98_27 s
theorem r_n98_2 : n98_2 s = contK n98_25 (n98_3 s) := q_seq _ c98_3 c98_25 s
theorem r_n98_0 : n98_0 s = contK n98_2 (n98_1 s) := q_seq _ c98_1 c98_2 s
theorem va_98 : (annT 98).virt = [] := rfl
theorem wa_98 : (annT 98).wr = [] := rfl
theorem ya_98 : (annT 98).ty = [] := rfl
theorem cv_98 (call : Eng.Call) (wr : Bool) (args : List AV) (st : Store) : callV X call wr 98 args st = cvP call wr 98 args st (fzAll (fz false st 6) args) := cv_pure rfl rfl call wr args st
theorem p98 (ds : List D) : pureCall C 98 ds = ((n98_0 ⟨argsT 0 (ds.map .d), []⟩).bind (bodyR [.tmp 4])).bind prOf := P_eq Try.f98 rfl rfl rfl rfl ds
theorem q98 (vs : List AV) (st : Store) : C 98 vs st = (n98_0 ⟨argsT 0 vs, st⟩).bind (bodyR [.tmp 4]) := C_eq Try.f98 rfl rfl rfl rfl vs st
attribute [go_sem] r_n98_1 g_o98_1 o98_1 r_n98_4 g_o98_4 o98_4 r_n98_8 g_o98_8 o98_8 r_n98_11 r_n98_12 r_n98_10 r_n98_16 g_o98_16 o98_16 r_n98_18 g_o98_18 o98_18 r_n98_21 g_o98_21 o98_21 r_n98_22 r_n98_20 r_n98_23 r_n98_19 r_n98_17 r_n98_15 r_n98_14 r_n98_24 g_o98_24 o98_24 r_n98_13 r_n98_9 r_n98_7 r_n98_5 r_n98_3 r_n98_26 g_o98_26 o98_26 r_n98_27 r_n98_25 r_n98_2 r_n98_0 va_98 wa_98 ya_98 cv_98
noncomputable def c93_0 : Code := Try.f93.body.getD .skip
noncomputable def A93 := run (annT 93)
def n93_0 := A93 c93_0
def c93_1 := gL c93_0
def n93_1 := A93 c93_1
def o93_1 : OL c93_1 := ⟨_, by conv => (lhs; whnf)⟩
def c93_2 := gR c93_0
def n93_2 := A93 c93_2
def c93_3 := gL c93_2
def n93_3 := A93 c93_3
def o93_3 : OL c93_3 := ⟨_, by conv => (lhs; whnf)⟩
def c93_4 := gR c93_2
def n93_4 := A93 c93_4
theorem r_n93_1 : n93_1 s = behK 3 (stepsO X (annT 93) C (gO c93_1) o93_1.1 s) := q_region (annT 93) s 0 _ false rfl _ _ rfl rfl o93_1.2
theorem g_o93_1 : gdst (gO c93_1) j = (o93_1.1[j]?).bind Oper.dst := gd_eq o93_1.2 j
theorem r_n93_3 : n93_3 s = behK 16 (stepsO X (annT 93) C (gO c93_3) o93_3.1 s) := q_region (annT 93) s 1 _ false rfl _ _ rfl rfl o93_3.2
theorem g_o93_3 : gdst (gO c93_3) j = (o93_3.1[j]?).bind Oper.dst := gd_eq o93_3.2 j
theorem r_n93_4 : n93_4 s = some (.ret, s) := run_ret _ s
theorem r_n93_2 : n93_2 s = contK n93_4 (n93_3 s) := q_seq _ c93_3 c93_4 s
theorem r_n93_0 : n93_0 s = contK n93_2 (n93_1 s) := q_seq _ c93_1 c93_2 s
theorem va_93 : (annT 93).virt = [] := rfl
theorem wa_93 : (annT 93).wr = [] := rfl
theorem ya_93 : (annT 93).ty = [] := rfl
theorem cv_93 (call : Eng.Call) (wr : Bool) (args : List AV) (st : Store) : callV X call wr 93 args st = cvP call wr 93 args st (fzAll (fz false st 6) args) := cv_pure rfl rfl call wr args st
theorem p93 (ds : List D) : pureCall C 93 ds = ((n93_0 ⟨argsT 0 (ds.map .d), []⟩).bind (bodyR [.tmp 4])).bind prOf := P_eq Try.f93 rfl rfl rfl rfl ds
theorem q93 (vs : List AV) (st : Store) : C 93 vs st = (n93_0 ⟨argsT 0 vs, st⟩).bind (bodyR [.tmp 4]) := C_eq Try.f93 rfl rfl rfl rfl vs st
attribute [go_sem] r_n93_1 g_o93_1 o93_1 r_n93_3 g_o93_3 o93_3 r_n93_4 r_n93_2 r_n93_0 va_93 wa_93 ya_93 cv_93
noncomputable def c99_0 : Code := Try.f99.body.getD .skip
noncomputable def A99 := run (annT 99)
def n99_0 := A99 c99_0
def c99_1 := gL c99_0
def n99_1 := A99 c99_1
def o99_1 : OL c99_1 := ⟨_, by conv => (lhs; whnf)⟩
def c99_2 := gR c99_0
def n99_2 := A99 c99_2
def c99_3 := gL c99_2
def n99_3 := A99 c99_3
def c99_4 := gL c99_3
def n99_4 := A99 c99_4
def o99_4 : OL c99_4 := ⟨_, by conv => (lhs; whnf)⟩
def c99_5 := gR c99_3
def n99_5 := A99 c99_5
def c99_6 := gB c99_5
def n99_6 := A99 c99_6
def c99_7 := gB c99_6
def n99_7 := A99 c99_7
def c99_8 := gL c99_7
def n99_8 := A99 c99_8
def o99_8 : OL c99_8 := ⟨_, by conv => (lhs; whnf)⟩
def c99_9 := gR c99_7
def n99_9 := A99 c99_9
def c99_10 := gL c99_9
def n99_10 := A99 c99_10
def c99_11 := gT c99_10
def n99_11 := A99 c99_11
def c99_12 := gF c99_10
def n99_12 := A99 c99_12
def c99_13 := gR c99_9
def n99_13 := A99 c99_13
def c99_14 := gL c99_13
def n99_14 := A99 c99_14
def c99_15 := gB c99_14
def n99_15 := A99 c99_15
def c99_16 := gL c99_15
def n99_16 := A99 c99_16
def o99_16 : OL c99_16 := ⟨_, by conv => (lhs; whnf)⟩
def c99_17 := gR c99_15
def n99_17 := A99 c99_17
def c99_18 := gL c99_17
def n99_18 := A99 c99_18
def o99_18 : OL c99_18 := ⟨_, by conv => (lhs; whnf)⟩
def c99_19 := gR c99_17
def n99_19 := A99 c99_19
def c99_20 := gT c99_19
def n99_20 := A99 c99_20
def c99_21 := gL c99_20
def n99_21 := A99 c99_21
def o99_21 : OL c99_21 := ⟨_, by conv => (lhs; whnf)⟩
def c99_22 := gR c99_20
def n99_22 := A99 c99_22
def c99_23 := gF c99_19
def n99_23 := A99 c99_23
def c99_24 := gR c99_13
def n99_24 := A99 c99_24
def o99_24 : OL c99_24 := ⟨_, by conv => (lhs; whnf)⟩
def c99_25 := gR c99_2
def n99_25 := A99 c99_25
def c99_26 := gL c99_25
def n99_26 := A99 c99_26
def o99_26 : OL c99_26 := ⟨_, by conv => (lhs; whnf)⟩
def c99_27 := gR c99_25
def n99_27 := A99 c99_27
theorem r_n99_1 : n99_1 s = behK 3 (stepsO X (annT 99) C (gO c99_1) o99_1.1 s) := q_region (annT 99) s 0 _ false rfl _ _ rfl rfl o99_1.2
theorem g_o99_1 : gdst (gO c99_1) j = (o99_1.1[j]?).bind Oper.dst := gd_eq o99_1.2 j
theorem r_n99_4 : n99_4 s = behK 387 (stepsO X (annT 99) C (gO c99_4) o99_4.1 s) := q_region (annT 99) s 1 _ false rfl _ _ rfl rfl o99_4.2
theorem g_o99_4 : gdst (gO c99_4) j = (o99_4.1[j]?).bind Oper.dst := gd_eq o99_4.2 j
theorem r_n99_8 : n99_8 s = behK 899 (stepsO X (annT 99) C (gO c99_8) o99_8.1 s) := q_region (annT 99) s 2 _ false rfl _ _ rfl rfl o99_8.2
theorem g_o99_8 : gdst (gO c99_8) j = (o99_8.1[j]?).bind Oper.dst := gd_eq o99_8.2 j
theorem r_n99_11 : n99_11 s = some (.norm, s) := run_skip _ s
theorem r_n99_12 : n99_12 s = some (.exit 0, s) := run_exit _ s 0
theorem r_n99_10 : n99_10 s = condK (opv s.t (.tmp 9)) n99_11 n99_12 s := q_cond _ c99_11 c99_12 s (.tmp 9)
theorem r_n99_16 : n99_16 s = behK 419 (stepsO X (annT 99) C (gO c99_16) o99_16.1 s) := q_region (annT 99) s 3 _ false rfl _ _ rfl rfl o99_16.2
theorem g_o99_16 : gdst (gO c99_16) j = (o99_16.1[j]?).bind Oper.dst := gd_eq o99_16.2 j
theorem r_n99_18 : n99_18 s = behK 65955 (stepsO X (annT 99) C (gO c99_18) o99_18.1 s) := q_region (annT 99) s 4 _ false rfl _ _ rfl rfl o99_18.2
theorem g_o99_18 : gdst (gO c99_18) j = (o99_18.1[j]?).bind Oper.dst := gd_eq o99_18.2 j
theorem r_n99_21 : n99_21 s = behK 16 (stepsO X (annT 99) C (gO c99_21) o99_21.1 s) := q_region (annT 99) s 5 _ false rfl _ _ rfl rfl o99_21.2
theorem g_o99_21 : gdst (gO c99_21) j = (o99_21.1[j]?).bind Oper.dst := gd_eq o99_21.2 j
theorem r_n99_22 : n99_22 s = some (.ret, s) := run_ret _ s
theorem r_n99_20 : n99_20 s = contK n99_22 (n99_21 s) := q_seq _ c99_21 c99_22 s
theorem r_n99_23 : n99_23 s = some (.norm, s) := run_skip _ s
theorem r_n99_19 : n99_19 s = condK (opv s.t (.tmp 16)) n99_20 n99_23 s := q_cond _ c99_20 c99_23 s (.tmp 16)
theorem r_n99_17 : n99_17 s = contK n99_19 (n99_18 s) := q_seq _ c99_18 c99_19 s
theorem r_n99_15 : n99_15 s = contK n99_17 (n99_16 s) := q_seq _ c99_16 c99_17 s
theorem r_n99_14 : n99_14 s = blkK 1 (n99_15 s) := q_block _ c99_15 s 1
theorem r_n99_24 : n99_24 s = behK 387 (stepsO X (annT 99) C (gO c99_24) o99_24.1 s) := q_region (annT 99) s 6 _ false rfl _ _ rfl rfl o99_24.2
theorem g_o99_24 : gdst (gO c99_24) j = (o99_24.1[j]?).bind Oper.dst := gd_eq o99_24.2 j
theorem r_n99_13 : n99_13 s = contK n99_24 (n99_14 s) := q_seq _ c99_14 c99_24 s
theorem r_n99_9 : n99_9 s = contK n99_13 (n99_10 s) := q_seq _ c99_10 c99_13 s
theorem r_n99_7 : n99_7 s = contK n99_9 (n99_8 s) := q_seq _ c99_8 c99_9 s
theorem r_n99_6 : n99_6 s = loopK 387 s.st.length n99_6 (n99_7 s) := q_loop (annT 99) c99_7 s _ _ rfl rfl
theorem r_n99_5 : n99_5 s = blkK 0 (n99_6 s) := q_block _ c99_6 s 0
theorem r_n99_3 : n99_3 s = contK n99_5 (n99_4 s) := q_seq _ c99_4 c99_5 s
theorem r_n99_26 : n99_26 s = behK 16 (stepsO X (annT 99) C (gO c99_26) o99_26.1 s) := q_region (annT 99) s 7 _ false rfl _ _ rfl rfl o99_26.2
theorem g_o99_26 : gdst (gO c99_26) j = (o99_26.1[j]?).bind Oper.dst := gd_eq o99_26.2 j
theorem r_n99_27 : n99_27 s = some (.ret, s) := run_ret _ s
theorem r_n99_25 : n99_25 s = contK n99_27 (n99_26 s) := q_seq _ c99_26 c99_27 s
theorem r_n99_2 : n99_2 s = contK n99_25 (n99_3 s) := q_seq _ c99_3 c99_25 s
theorem r_n99_0 : n99_0 s = contK n99_2 (n99_1 s) := q_seq _ c99_1 c99_2 s
theorem va_99 : (annT 99).virt = [] := rfl
theorem wa_99 : (annT 99).wr = [] := rfl
theorem ya_99 : (annT 99).ty = [] := rfl
theorem cv_99 (call : Eng.Call) (wr : Bool) (args : List AV) (st : Store) : callV X call wr 99 args st = cvP call wr 99 args st (fzAll (fz false st 6) args) := cv_pure rfl rfl call wr args st
theorem p99 (ds : List D) : pureCall C 99 ds = ((n99_0 ⟨argsT 0 (ds.map .d), []⟩).bind (bodyR [.tmp 4])).bind prOf := P_eq Try.f99 rfl rfl rfl rfl ds
theorem q99 (vs : List AV) (st : Store) : C 99 vs st = (n99_0 ⟨argsT 0 vs, st⟩).bind (bodyR [.tmp 4]) := C_eq Try.f99 rfl rfl rfl rfl vs st
attribute [go_sem] r_n99_1 g_o99_1 o99_1 r_n99_4 g_o99_4 o99_4 r_n99_8 g_o99_8 o99_8 r_n99_11 r_n99_12 r_n99_10 r_n99_16 g_o99_16 o99_16 r_n99_18 g_o99_18 o99_18 r_n99_21 g_o99_21 o99_21 r_n99_22 r_n99_20 r_n99_23 r_n99_19 r_n99_17 r_n99_15 r_n99_14 r_n99_24 g_o99_24 o99_24 r_n99_13 r_n99_9 r_n99_7 r_n99_5 r_n99_3 r_n99_26 g_o99_26 o99_26 r_n99_27 r_n99_25 r_n99_2 r_n99_0 va_99 wa_99 ya_99 cv_99
noncomputable def c95_0 : Code := Try.f95.body.getD .skip
noncomputable def A95 := run (annT 95)
def n95_0 := A95 c95_0
def c95_1 := gL c95_0
def n95_1 := A95 c95_1
def o95_1 : OL c95_1 := ⟨_, by conv => (lhs; whnf)⟩
def c95_2 := gR c95_0
def n95_2 := A95 c95_2
def c95_3 := gL c95_2
def n95_3 := A95 c95_3
def o95_3 : OL c95_3 := ⟨_, by conv => (lhs; whnf)⟩
def c95_4 := gR c95_2
def n95_4 := A95 c95_4
theorem r_n95_1 : n95_1 s = behK 3 (stepsO X (annT 95) C (gO c95_1) o95_1.1 s) := q_region (annT 95) s 0 _ false rfl _ _ rfl rfl o95_1.2
theorem g_o95_1 : gdst (gO c95_1) j = (o95_1.1[j]?).bind Oper.dst := gd_eq o95_1.2 j
theorem r_n95_3 : n95_3 s = behK 16 (stepsO X (annT 95) C (gO c95_3) o95_3.1 s) := q_region (annT 95) s 1 _ false rfl _ _ rfl rfl o95_3.2
theorem g_o95_3 : gdst (gO c95_3) j = (o95_3.1[j]?).bind Oper.dst := gd_eq o95_3.2 j
theorem r_n95_4 : n95_4 s = some (.ret, s) := run_ret _ s
theorem r_n95_2 : n95_2 s = contK n95_4 (n95_3 s) := q_seq _ c95_3 c95_4 s
theorem r_n95_0 : n95_0 s = contK n95_2 (n95_1 s) := q_seq _ c95_1 c95_2 s
theorem va_95 : (annT 95).virt = [] := rfl
theorem wa_95 : (annT 95).wr = [] := rfl
theorem ya_95 : (annT 95).ty = [] := rfl
theorem cv_95 (call : Eng.Call) (wr : Bool) (args : List AV) (st : Store) : callV X call wr 95 args st = cvP call wr 95 args st (fzAll (fz false st 6) args) := cv_pure rfl rfl call wr args st
theorem p95 (ds : List D) : pureCall C 95 ds = ((n95_0 ⟨argsT 0 (ds.map .d), []⟩).bind (bodyR [.tmp 4])).bind prOf := P_eq Try.f95 rfl rfl rfl rfl ds
theorem q95 (vs : List AV) (st : Store) : C 95 vs st = (n95_0 ⟨argsT 0 vs, st⟩).bind (bodyR [.tmp 4]) := C_eq Try.f95 rfl rfl rfl rfl vs st
attribute [go_sem] r_n95_1 g_o95_1 o95_1 r_n95_3 g_o95_3 o95_3 r_n95_4 r_n95_2 r_n95_0 va_95 wa_95 ya_95 cv_95
noncomputable def c74_0 : Code := Try.f74.body.getD .skip
noncomputable def A74 := run (annT 74)
def n74_0 := A74 c74_0
def c74_1 := gL c74_0
def n74_1 := A74 c74_1
def o74_1 : OL c74_1 := ⟨_, by conv => (lhs; whnf)⟩
def c74_2 := gR c74_0
def n74_2 := A74 c74_2
def c74_3 := gL c74_2
def n74_3 := A74 c74_3
def o74_3 : OL c74_3 := ⟨_, by conv => (lhs; whnf)⟩
def c74_4 := gR c74_2
def n74_4 := A74 c74_4
theorem r_n74_1 : n74_1 s = behK 2 (stepsO X (annT 74) C (gO c74_1) o74_1.1 s) := q_region (annT 74) s 0 _ false rfl _ _ rfl rfl o74_1.2
theorem g_o74_1 : gdst (gO c74_1) j = (o74_1.1[j]?).bind Oper.dst := gd_eq o74_1.2 j
theorem r_n74_3 : n74_3 s = behK 4 (stepsO X (annT 74) C (gO c74_3) o74_3.1 s) := q_region (annT 74) s 1 _ false rfl _ _ rfl rfl o74_3.2
theorem g_o74_3 : gdst (gO c74_3) j = (o74_3.1[j]?).bind Oper.dst := gd_eq o74_3.2 j
theorem r_n74_4 : n74_4 s = some (.ret, s) := run_ret _ s
theorem r_n74_2 : n74_2 s = contK n74_4 (n74_3 s) := q_seq _ c74_3 c74_4 s
theorem r_n74_0 : n74_0 s = contK n74_2 (n74_1 s) := q_seq _ c74_1 c74_2 s
theorem va_74 : (annT 74).virt = [] := rfl
theorem wa_74 : (annT 74).wr = [] := rfl
theorem ya_74 : (annT 74).ty = [] := rfl
theorem cv_74 (call : Eng.Call) (wr : Bool) (args : List AV) (st : Store) : callV X call wr 74 args st = cvP call wr 74 args st (fzAll (fz false st 6) args) := cv_pure rfl rfl call wr args st
theorem p74 (ds : List D) : pureCall C 74 ds = ((n74_0 ⟨argsT 0 (ds.map .d), []⟩).bind (bodyR [.tmp 2])).bind prOf := P_eq Try.f74 rfl rfl rfl rfl ds
theorem q74 (vs : List AV) (st : Store) : C 74 vs st = (n74_0 ⟨argsT 0 vs, st⟩).bind (bodyR [.tmp 2]) := C_eq Try.f74 rfl rfl rfl rfl vs st
attribute [go_sem] r_n74_1 g_o74_1 o74_1 r_n74_3 g_o74_3 o74_3 r_n74_4 r_n74_2 r_n74_0 va_74 wa_74 ya_74 cv_74
noncomputable def c76_0 : Code := Try.f76.body.getD .skip
noncomputable def A76 := run (annT 76)
def n76_0 := A76 c76_0
def c76_1 := gL c76_0
def n76_1 := A76 c76_1
def o76_1 : OL c76_1 := ⟨_, by conv => (lhs; whnf)⟩
def c76_2 := gR c76_0
def n76_2 := A76 c76_2
def c76_3 := gL c76_2
def n76_3 := A76 c76_3
def c76_4 := gB c76_3
def n76_4 := A76 c76_4
def c76_5 := gL c76_4
def n76_5 := A76 c76_5
def c76_6 := gL c76_5
def n76_6 := A76 c76_6
def o76_6 : OL c76_6 := ⟨_, by conv => (lhs; whnf)⟩
def c76_7 := gR c76_5
def n76_7 := A76 c76_7
def c76_8 := gT c76_7
def n76_8 := A76 c76_8
def c76_9 := gF c76_7
def n76_9 := A76 c76_9
def o76_9 : OL c76_9 := ⟨_, by conv => (lhs; whnf)⟩
def c76_10 := gR c76_4
def n76_10 := A76 c76_10
def c76_11 := gT c76_10
def n76_11 := A76 c76_11
def c76_12 := gL c76_11
def n76_12 := A76 c76_12
def o76_12 : OL c76_12 := ⟨_, by conv => (lhs; whnf)⟩
def c76_13 := gR c76_11
def n76_13 := A76 c76_13
def c76_14 := gF c76_10
def n76_14 := A76 c76_14
def c76_15 := gL c76_14
def n76_15 := A76 c76_15
def c76_16 := gL c76_15
def n76_16 := A76 c76_16
def o76_16 : OL c76_16 := ⟨_, by conv => (lhs; whnf)⟩
def c76_17 := gR c76_15
def n76_17 := A76 c76_17
def c76_18 := gT c76_17
def n76_18 := A76 c76_18
def c76_19 := gF c76_17
def n76_19 := A76 c76_19
def c76_20 := gL c76_19
def n76_20 := A76 c76_20
def o76_20 : OL c76_20 := ⟨_, by conv => (lhs; whnf)⟩
def c76_21 := gR c76_19
def n76_21 := A76 c76_21
def c76_22 := gT c76_21
def n76_22 := A76 c76_22
def c76_23 := gF c76_21
def n76_23 := A76 c76_23
def o76_23 : OL c76_23 := ⟨_, by conv => (lhs; whnf)⟩
def c76_24 := gR c76_14
def n76_24 := A76 c76_24
def c76_25 := gT c76_24
def n76_25 := A76 c76_25
def c76_26 := gL c76_25
def n76_26 := A76 c76_26
def o76_26 : OL c76_26 := ⟨_, by conv => (lhs; whnf)⟩
def c76_27 := gR c76_25
def n76_27 := A76 c76_27
def c76_28 := gF c76_24
def n76_28 := A76 c76_28
def c76_29 := gR c76_2
def n76_29 := A76 c76_29
def c76_30 := gL c76_29
def n76_30 := A76 c76_30
def o76_30 : OL c76_30 := ⟨_, by conv => (lhs; whnf)⟩
def c76_31 := gR c76_29
def n76_31 := A76 c76_31
theorem r_n76_1 : n76_1 s = behK 2 (stepsO X (annT 76) C (gO c76_1) o76_1.1 s) := q_region (annT 76) s 0 _ false rfl _ _ rfl rfl o76_1.2
theorem g_o76_1 : gdst (gO c76_1) j = (o76_1.1[j]?).bind Oper.dst := gd_eq o76_1.2 j
theorem r_n76_6 : n76_6 s = behK 10 (stepsO X (annT 76) C (gO c76_6) o76_6.1 s) := q_region (annT 76) s 1 _ false rfl _ _ rfl rfl o76_6.2
theorem g_o76_6 : gdst (gO c76_6) j = (o76_6.1[j]?).bind Oper.dst := gd_eq o76_6.2 j
theorem r_n76_8 : n76_8 s = some (.norm, s) := run_skip _ s
theorem r_n76_9 : n76_9 s = behK 10 (stepsO X (annT 76) C (gO c76_9) o76_9.1 s) := q_region (annT 76) s 2 _ false rfl _ _ rfl rfl o76_9.2
theorem g_o76_9 : gdst (gO c76_9) j = (o76_9.1[j]?).bind Oper.dst := gd_eq o76_9.2 j
theorem r_n76_7 : n76_7 s = condK (opv s.t (.tmp 3)) n76_8 n76_9 s := q_cond _ c76_8 c76_9 s (.tmp 3)
theorem r_n76_5 : n76_5 s = contK n76_7 (n76_6 s) := q_seq _ c76_6 c76_7 s
theorem r_n76_12 : n76_12 s = behK 4 (stepsO X (annT 76) C (gO c76_12) o76_12.1 s) := q_region (annT 76) s 3 _ false rfl _ _ rfl rfl o76_12.2
theorem g_o76_12 : gdst (gO c76_12) j = (o76_12.1[j]?).bind Oper.dst := gd_eq o76_12.2 j
theorem r_n76_13 : n76_13 s = some (.ret, s) := run_ret _ s
theorem r_n76_11 : n76_11 s = contK n76_13 (n76_12 s) := q_seq _ c76_12 c76_13 s
theorem r_n76_16 : n76_16 s = behK 4194306 (stepsO X (annT 76) C (gO c76_16) o76_16.1 s) := q_region (annT 76) s 4 _ false rfl _ _ rfl rfl o76_16.2
theorem g_o76_16 : gdst (gO c76_16) j = (o76_16.1[j]?).bind Oper.dst := gd_eq o76_16.2 j
theorem r_n76_18 : n76_18 s = some (.norm, s) := run_skip _ s
theorem r_n76_20 : n76_20 s = behK 4194306 (stepsO X (annT 76) C (gO c76_20) o76_20.1 s) := q_region (annT 76) s 5 _ false rfl _ _ rfl rfl o76_20.2
theorem g_o76_20 : gdst (gO c76_20) j = (o76_20.1[j]?).bind Oper.dst := gd_eq o76_20.2 j
theorem r_n76_22 : n76_22 s = some (.norm, s) := run_skip _ s
theorem r_n76_23 : n76_23 s = behK 4194304 (stepsO X (annT 76) C (gO c76_23) o76_23.1 s) := q_region (annT 76) s 6 _ false rfl _ _ rfl rfl o76_23.2
theorem g_o76_23 : gdst (gO c76_23) j = (o76_23.1[j]?).bind Oper.dst := gd_eq o76_23.2 j
theorem r_n76_21 : n76_21 s = condK (opv s.t (.tmp 22)) n76_22 n76_23 s := q_cond _ c76_22 c76_23 s (.tmp 22)
theorem r_n76_19 : n76_19 s = contK n76_21 (n76_20 s) := q_seq _ c76_20 c76_21 s
theorem r_n76_17 : n76_17 s = condK (opv s.t (.tmp 22)) n76_18 n76_19 s := q_cond _ c76_18 c76_19 s (.tmp 22)
theorem r_n76_15 : n76_15 s = contK n76_17 (n76_16 s) := q_seq _ c76_16 c76_17 s
theorem r_n76_26 : n76_26 s = behK 4 (stepsO X (annT 76) C (gO c76_26) o76_26.1 s) := q_region (annT 76) s 7 _ false rfl _ _ rfl rfl o76_26.2
theorem g_o76_26 : gdst (gO c76_26) j = (o76_26.1[j]?).bind Oper.dst := gd_eq o76_26.2 j
theorem r_n76_27 : n76_27 s = some (.ret, s) := run_ret _ s
theorem r_n76_25 : n76_25 s = contK n76_27 (n76_26 s) := q_seq _ c76_26 c76_27 s
theorem r_n76_28 : n76_28 s = some (.norm, s) := run_skip _ s
theorem r_n76_24 : n76_24 s = condK (opv s.t (.tmp 22)) n76_25 n76_28 s := q_cond _ c76_25 c76_28 s (.tmp 22)
theorem r_n76_14 : n76_14 s = contK n76_24 (n76_15 s) := q_seq _ c76_15 c76_24 s
theorem r_n76_10 : n76_10 s = condK (opv s.t (.tmp 3)) n76_11 n76_14 s := q_cond _ c76_11 c76_14 s (.tmp 3)
theorem r_n76_4 : n76_4 s = contK n76_10 (n76_5 s) := q_seq _ c76_5 c76_10 s
theorem r_n76_3 : n76_3 s = blkK 0 (n76_4 s) := q_block _ c76_4 s 0
theorem r_n76_30 : n76_30 s = behK 4 (stepsO X (annT 76) C (gO c76_30) o76_30.1 s) := q_region (annT 76) s 8 _ false rfl _ _ rfl rfl o76_30.2
theorem g_o76_30 : gdst (gO c76_30) j = (o76_30.1[j]?).bind Oper.dst := gd_eq o76_30.2 j
theorem r_n76_31 : n76_31 s = some (.ret, s) := run_ret _ s
theorem r_n76_29 : n76_29 s = contK n76_31 (n76_30 s) := q_seq _ c76_30 c76_31 s
theorem r_n76_2 : n76_2 s = contK n76_29 (n76_3 s) := q_seq _ c76_3 c76_29 s
theorem r_n76_0 : n76_0 s = contK n76_2 (n76_1 s) := q_seq _ c76_1 c76_2 s
theorem va_76 : (annT 76).virt = [] := rfl
theorem wa_76 : (annT 76).wr = [] := rfl
theorem ya_76 : (annT 76).ty = [] := rfl
theorem cv_76 (call : Eng.Call) (wr : Bool) (args : List AV) (st : Store) : callV X call wr 76 args st = cvP call wr 76 args st (fzAll (fz false st 6) args) := cv_pure rfl rfl call wr args st
theorem p76 (ds : List D) : pureCall C 76 ds = ((n76_0 ⟨argsT 0 (ds.map .d), []⟩).bind (bodyR [.tmp 2])).bind prOf := P_eq Try.f76 rfl rfl rfl rfl ds
theorem q76 (vs : List AV) (st : Store) : C 76 vs st = (n76_0 ⟨argsT 0 vs, st⟩).bind (bodyR [.tmp 2]) := C_eq Try.f76 rfl rfl rfl rfl vs st
attribute [go_sem] r_n76_1 g_o76_1 o76_1 r_n76_6 g_o76_6 o76_6 r_n76_8 r_n76_9 g_o76_9 o76_9 r_n76_7 r_n76_5 r_n76_12 g_o76_12 o76_12 r_n76_13 r_n76_11 r_n76_16 g_o76_16 o76_16 r_n76_18 r_n76_20 g_o76_20 o76_20 r_n76_22 r_n76_23 g_o76_23 o76_23 r_n76_21 r_n76_19 r_n76_17 r_n76_15 r_n76_26 g_o76_26 o76_26 r_n76_27 r_n76_25 r_n76_28 r_n76_24 r_n76_14 r_n76_10 r_n76_4 r_n76_3 r_n76_30 g_o76_30 o76_30 r_n76_31 r_n76_29 r_n76_2 r_n76_0 va_76 wa_76 ya_76 cv_76
noncomputable def c77_0 : Code := Try.f77.body.getD .skip
noncomputable def A77 := run (annT 77)
def n77_0 := A77 c77_0
def c77_1 := gL c77_0
def n77_1 := A77 c77_1
def o77_1 : OL c77_1 := ⟨_, by conv => (lhs; whnf)⟩
def c77_2 := gR c77_0
def n77_2 := A77 c77_2
def c77_3 := gL c77_2
def n77_3 := A77 c77_3
def o77_3 : OL c77_3 := ⟨_, by conv => (lhs; whnf)⟩
def c77_4 := gR c77_2
def n77_4 := A77 c77_4
def c77_5 := gL c77_4
def n77_5 := A77 c77_5
def o77_5 : OL c77_5 := ⟨_, by conv => (lhs; whnf)⟩
def c77_6 := gR c77_4
def n77_6 := A77 c77_6
theorem r_n77_1 : n77_1 s = behK 2 (stepsO X (annT 77) C (gO c77_1) o77_1.1 s) := q_region (annT 77) s 0 _ false rfl _ _ rfl rfl o77_1.2
theorem g_o77_1 : gdst (gO c77_1) j = (o77_1.1[j]?).bind Oper.dst := gd_eq o77_1.2 j
theorem r_n77_3 : n77_3 s = behK 10 (stepsO X (annT 77) C (gO c77_3) o77_3.1 s) := q_region (annT 77) s 1 _ false rfl _ _ rfl rfl o77_3.2
theorem g_o77_3 : gdst (gO c77_3) j = (o77_3.1[j]?).bind Oper.dst := gd_eq o77_3.2 j
theorem r_n77_5 : n77_5 s = behK 4 (stepsO X (annT 77) C (gO c77_5) o77_5.1 s) := q_region (annT 77) s 2 _ false rfl _ _ rfl rfl o77_5.2
theorem g_o77_5 : gdst (gO c77_5) j = (o77_5.1[j]?).bind Oper.dst := gd_eq o77_5.2 j
theorem r_n77_6 : n77_6 s = some (.ret, s) := run_ret _ s
theorem r_n77_4 : n77_4 s = contK n77_6 (n77_5 s) := q_seq _ c77_5 c77_6 s
theorem r_n77_2 : n77_2 s = contK n77_4 (n77_3 s) := q_seq _ c77_3 c77_4 s
theorem r_n77_0 : n77_0 s = contK n77_2 (n77_1 s) := q_seq _ c77_1 c77_2 s
theorem va_77 : (annT 77).virt = [] := rfl
theorem wa_77 : (annT 77).wr = [] := rfl
theorem ya_77 : (annT 77).ty = [] := rfl
theorem cv_77 (call : Eng.Call) (wr : Bool) (args : List AV) (st : Store) : callV X call wr 77 args st = cvP call wr 77 args st (fzAll (fz false st 6) args) := cv_pure rfl rfl call wr args st
theorem p77 (ds : List D) : pureCall C 77 ds = ((n77_0 ⟨argsT 0 (ds.map .d), []⟩).bind (bodyR [.tmp 2])).bind prOf := P_eq Try.f77 rfl rfl rfl rfl ds
theorem q77 (vs : List AV) (st : Store) : C 77 vs st = (n77_0 ⟨argsT 0 vs, st⟩).bind (bodyR [.tmp 2]) := C_eq Try.f77 rfl rfl rfl rfl vs st
attribute [go_sem] r_n77_1 g_o77_1 o77_1 r_n77_3 g_o77_3 o77_3 r_n77_5 g_o77_5 o77_5 r_n77_6 r_n77_4 r_n77_2 r_n77_0 va_77 wa_77 ya_77 cv_77
noncomputable def c78_0 : Code := Try.f78.body.getD .skip
noncomputable def A78 := run (annT 78)
def n78_0 := A78 c78_0
def c78_1 := gL c78_0
def n78_1 := A78 c78_1
def o78_1 : OL c78_1 := ⟨_, by conv => (lhs; whnf)⟩
def c78_2 := gR c78_0
def n78_2 := A78 c78_2
def c78_3 := gL c78_2
def n78_3 := A78 c78_3
def o78_3 : OL c78_3 := ⟨_, by conv => (lhs; whnf)⟩
def c78_4 := gR c78_2
def n78_4 := A78 c78_4
theorem r_n78_1 : n78_1 s = behK 1 (stepsO X (annT 78) C (gO c78_1) o78_1.1 s) := q_region (annT 78) s 0 _ false rfl _ _ rfl rfl o78_1.2
theorem g_o78_1 : gdst (gO c78_1) j = (o78_1.1[j]?).bind Oper.dst := gd_eq o78_1.2 j
theorem r_n78_3 : n78_3 s = behK 4 (stepsO X (annT 78) C (gO c78_3) o78_3.1 s) := q_region (annT 78) s 1 _ false rfl _ _ rfl rfl o78_3.2
theorem g_o78_3 : gdst (gO c78_3) j = (o78_3.1[j]?).bind Oper.dst := gd_eq o78_3.2 j
theorem r_n78_4 : n78_4 s = some (.ret, s) := run_ret _ s
theorem r_n78_2 : n78_2 s = contK n78_4 (n78_3 s) := q_seq _ c78_3 c78_4 s
theorem r_n78_0 : n78_0 s = contK n78_2 (n78_1 s) := q_seq _ c78_1 c78_2 s
theorem va_78 : (annT 78).virt = [] := rfl
theorem wa_78 : (annT 78).wr = [] := rfl
theorem ya_78 : (annT 78).ty = [] := rfl
theorem cv_78 (call : Eng.Call) (wr : Bool) (args : List AV) (st : Store) : callV X call wr 78 args st = cvP call wr 78 args st (fzAll (fz false st 6) args) := cv_pure rfl rfl call wr args st
theorem p78 (ds : List D) : pureCall C 78 ds = ((n78_0 ⟨argsT 0 (ds.map .d), []⟩).bind (bodyR [.tmp 2])).bind prOf := P_eq Try.f78 rfl rfl rfl rfl ds
theorem q78 (vs : List AV) (st : Store) : C 78 vs st = (n78_0 ⟨argsT 0 vs, st⟩).bind (bodyR [.tmp 2]) := C_eq Try.f78 rfl rfl rfl rfl vs st
attribute [go_sem] r_n78_1 g_o78_1 o78_1 r_n78_3 g_o78_3 o78_3 r_n78_4 r_n78_2 r_n78_0 va_78 wa_78 ya_78 cv_78
noncomputable def c56_0 : Code := Try.f56.body.getD .skip
noncomputable def A56 := run (annT 56)
def n56_0 := A56 c56_0
def c56_1 := gL c56_0
def n56_1 := A56 c56_1
def o56_1 : OL c56_1 := ⟨_, by conv => (lhs; whnf)⟩
def c56_2 := gR c56_0
def n56_2 := A56 c56_2
def c56_3 := gL c56_2
def n56_3 := A56 c56_3
def o56_3 : OL c56_3 := ⟨_, by conv => (lhs; whnf)⟩
def c56_4 := gR c56_2
def n56_4 := A56 c56_4
def c56_5 := gL c56_4
def n56_5 := A56 c56_5
def o56_5 : OL c56_5 := ⟨_, by conv => (lhs; whnf)⟩
def c56_6 := gR c56_4
def n56_6 := A56 c56_6
def c56_7 := gL c56_6
def n56_7 := A56 c56_7
def o56_7 : OL c56_7 := ⟨_, by conv => (lhs; whnf)⟩
def c56_8 := gR c56_6
def n56_8 := A56 c56_8
def c56_9 := gL c56_8
def n56_9 := A56 c56_9
def c56_10 := gL c56_9
def n56_10 := A56 c56_10
def o56_10 : OL c56_10 := ⟨_, by conv => (lhs; whnf)⟩
def c56_11 := gR c56_9
def n56_11 := A56 c56_11
def c56_12 := gB c56_11
def n56_12 := A56 c56_12
def c56_13 := gL c56_12
def n56_13 := A56 c56_13
def c56_14 := gL c56_13
def n56_14 := A56 c56_14
def o56_14 : OL c56_14 := ⟨_, by conv => (lhs; whnf)⟩
def c56_15 := gR c56_13
def n56_15 := A56 c56_15
def c56_16 := gT c56_15
def n56_16 := A56 c56_16
def c56_17 := gF c56_15
def n56_17 := A56 c56_17
def c56_18 := gL c56_17
def n56_18 := A56 c56_18
def o56_18 : OL c56_18 := ⟨_, by conv => (lhs; whnf)⟩
def c56_19 := gR c56_17
def n56_19 := A56 c56_19
def c56_20 := gT c56_19
def n56_20 := A56 c56_20
def c56_21 := gF c56_19
def n56_21 := A56 c56_21
def o56_21 : OL c56_21 := ⟨_, by conv => (lhs; whnf)⟩
def c56_22 := gR c56_12
def n56_22 := A56 c56_22
def c56_23 := gT c56_22
def n56_23 := A56 c56_23
def c56_24 := gL c56_23
def n56_24 := A56 c56_24
def o56_24 : OL c56_24 := ⟨_, by conv => (lhs; whnf)⟩
def c56_25 := gR c56_23
def n56_25 := A56 c56_25
def c56_26 := gF c56_22
def n56_26 := A56 c56_26
def c56_27 := gL c56_26
def n56_27 := A56 c56_27
def c56_28 := gL c56_27
def n56_28 := A56 c56_28
def o56_28 : OL c56_28 := ⟨_, by conv => (lhs; whnf)⟩
def c56_29 := gR c56_27
def n56_29 := A56 c56_29
def c56_30 := gT c56_29
def n56_30 := A56 c56_30
def c56_31 := gF c56_29
def n56_31 := A56 c56_31
def c56_32 := gL c56_31
def n56_32 := A56 c56_32
def o56_32 : OL c56_32 := ⟨_, by conv => (lhs; whnf)⟩
def c56_33 := gR c56_31
def n56_33 := A56 c56_33
def c56_34 := gT c56_33
def n56_34 := A56 c56_34
def c56_35 := gF c56_33
def n56_35 := A56 c56_35
def c56_36 := gL c56_35
def n56_36 := A56 c56_36
def o56_36 : OL c56_36 := ⟨_, by conv => (lhs; whnf)⟩
def c56_37 := gR c56_35
def n56_37 := A56 c56_37
def c56_38 := gT c56_37
def n56_38 := A56 c56_38
def c56_39 := gF c56_37
def n56_39 := A56 c56_39
def o56_39 : OL c56_39 := ⟨_, by conv => (lhs; whnf)⟩
def c56_40 := gR c56_26
def n56_40 := A56 c56_40
def c56_41 := gT c56_40
def n56_41 := A56 c56_41
def c56_42 := gL c56_41
def n56_42 := A56 c56_42
def o56_42 : OL c56_42 := ⟨_, by conv => (lhs; whnf)⟩
def c56_43 := gR c56_41
def n56_43 := A56 c56_43
def c56_44 := gF c56_40
def n56_44 := A56 c56_44
def c56_45 := gL c56_44
def n56_45 := A56 c56_45
def o56_45 : OL c56_45 := ⟨_, by conv => (lhs; whnf)⟩
def c56_46 := gR c56_44
def n56_46 := A56 c56_46
def c56_47 := gT c56_46
def n56_47 := A56 c56_47
def c56_48 := gL c56_47
def n56_48 := A56 c56_48
def o56_48 : OL c56_48 := ⟨_, by conv => (lhs; whnf)⟩
def c56_49 := gR c56_47
def n56_49 := A56 c56_49
def c56_50 := gF c56_46
def n56_50 := A56 c56_50
def c56_51 := gL c56_50
def n56_51 := A56 c56_51
def o56_51 : OL c56_51 := ⟨_, by conv => (lhs; whnf)⟩
def c56_52 := gR c56_50
def n56_52 := A56 c56_52
def c56_53 := gT c56_52
def n56_53 := A56 c56_53
def c56_54 := gL c56_53
def n56_54 := A56 c56_54
def o56_54 : OL c56_54 := ⟨_, by conv => (lhs; whnf)⟩
def c56_55 := gR c56_53
def n56_55 := A56 c56_55
def c56_56 := gF c56_52
def n56_56 := A56 c56_56
def c56_57 := gL c56_56
def n56_57 := A56 c56_57
def o56_57 : OL c56_57 := ⟨_, by conv => (lhs; whnf)⟩
def c56_58 := gR c56_56
def n56_58 := A56 c56_58
def c56_59 := gT c56_58
def n56_59 := A56 c56_59
def c56_60 := gL c56_59
def n56_60 := A56 c56_60
def o56_60 : OL c56_60 := ⟨_, by conv => (lhs; whnf)⟩
def c56_61 := gR c56_59
def n56_61 := A56 c56_61
def c56_62 := gF c56_58
def n56_62 := A56 c56_62
def c56_63 := gR c56_8
def n56_63 := A56 c56_63
def c56_64 := gL c56_63
def n56_64 := A56 c56_64
def o56_64 : OL c56_64 := ⟨_, by conv => (lhs; whnf)⟩
def c56_65 := gR c56_63
def n56_65 := A56 c56_65
theorem r_n56_1 : n56_1 s = behK 2 (stepsO X (annT 56) C (gO c56_1) o56_1.1 s) := q_region (annT 56) s 0 _ false rfl _ _ rfl rfl o56_1.2
theorem g_o56_1 : gdst (gO c56_1) j = (o56_1.1[j]?).bind Oper.dst := gd_eq o56_1.2 j
theorem r_n56_3 : n56_3 s = behK 10 (stepsO X (annT 56) C (gO c56_3) o56_3.1 s) := q_region (annT 56) s 1 _ false rfl _ _ rfl rfl o56_3.2
theorem g_o56_3 : gdst (gO c56_3) j = (o56_3.1[j]?).bind Oper.dst := gd_eq o56_3.2 j
theorem r_n56_5 : n56_5 s = behK 26 (stepsO X (annT 56) C (gO c56_5) o56_5.1 s) := q_region (annT 56) s 2 _ false rfl _ _ rfl rfl o56_5.2
theorem g_o56_5 : gdst (gO c56_5) j = (o56_5.1[j]?).bind Oper.dst := gd_eq o56_5.2 j
theorem r_n56_7 : n56_7 s = behK 58 (stepsO X (annT 56) C (gO c56_7) o56_7.1 s) := q_region (annT 56) s 3 _ false rfl _ _ rfl rfl o56_7.2
theorem g_o56_7 : gdst (gO c56_7) j = (o56_7.1[j]?).bind Oper.dst := gd_eq o56_7.2 j
theorem r_n56_10 : n56_10 s = behK 4194362 (stepsO X (annT 56) C (gO c56_10) o56_10.1 s) := q_region (annT 56) s 4 _ false rfl _ _ rfl rfl o56_10.2
theorem g_o56_10 : gdst (gO c56_10) j = (o56_10.1[j]?).bind Oper.dst := gd_eq o56_10.2 j
theorem r_n56_14 : n56_14 s = behK 12582970 (stepsO X (annT 56) C (gO c56_14) o56_14.1 s) := q_region (annT 56) s 5 _ false rfl _ _ rfl rfl o56_14.2
theorem g_o56_14 : gdst (gO c56_14) j = (o56_14.1[j]?).bind Oper.dst := gd_eq o56_14.2 j
theorem r_n56_16 : n56_16 s = some (.norm, s) := run_skip _ s
theorem r_n56_18 : n56_18 s = behK 12582970 (stepsO X (annT 56) C (gO c56_18) o56_18.1 s) := q_region (annT 56) s 6 _ false rfl _ _ rfl rfl o56_18.2
theorem g_o56_18 : gdst (gO c56_18) j = (o56_18.1[j]?).bind Oper.dst := gd_eq o56_18.2 j
theorem r_n56_20 : n56_20 s = some (.norm, s) := run_skip _ s
theorem r_n56_21 : n56_21 s = behK 12582970 (stepsO X (annT 56) C (gO c56_21) o56_21.1 s) := q_region (annT 56) s 7 _ false rfl _ _ rfl rfl o56_21.2
theorem g_o56_21 : gdst (gO c56_21) j = (o56_21.1[j]?).bind Oper.dst := gd_eq o56_21.2 j
theorem r_n56_19 : n56_19 s = condK (opv s.t (.tmp 23)) n56_20 n56_21 s := q_cond _ c56_20 c56_21 s (.tmp 23)
theorem r_n56_17 : n56_17 s = contK n56_19 (n56_18 s) := q_seq _ c56_18 c56_19 s
theorem r_n56_15 : n56_15 s = condK (opv s.t (.tmp 23)) n56_16 n56_17 s := q_cond _ c56_16 c56_17 s (.tmp 23)
theorem r_n56_13 : n56_13 s = contK n56_15 (n56_14 s) := q_seq _ c56_14 c56_15 s
theorem r_n56_24 : n56_24 s = behK 4 (stepsO X (annT 56) C (gO c56_24) o56_24.1 s) := q_region (annT 56) s 8 _ false rfl _ _ rfl rfl o56_24.2
theorem g_o56_24 : gdst (gO c56_24) j = (o56_24.1[j]?).bind Oper.dst := gd_eq o56_24.2 j
theorem r_n56_25 : n56_25 s = some (.ret, s) := run_ret _ s
theorem r_n56_23 : n56_23 s = contK n56_25 (n56_24 s) := q_seq _ c56_24 c56_25 s
theorem r_n56_28 : n56_28 s = behK 1125899911036986 (stepsO X (annT 56) C (gO c56_28) o56_28.1 s) := q_region (annT 56) s 9 _ false rfl _ _ rfl rfl o56_28.2
theorem g_o56_28 : gdst (gO c56_28) j = (o56_28.1[j]?).bind Oper.dst := gd_eq o56_28.2 j
theorem r_n56_30 : n56_30 s = some (.norm, s) := run_skip _ s
theorem r_n56_32 : n56_32 s = behK 1125899911036986 (stepsO X (annT 56) C (gO c56_32) o56_32.1 s) := q_region (annT 56) s 10 _ false rfl _ _ rfl rfl o56_32.2
theorem g_o56_32 : gdst (gO c56_32) j = (o56_32.1[j]?).bind Oper.dst := gd_eq o56_32.2 j
theorem r_n56_34 : n56_34 s = some (.norm, s) := run_skip _ s
theorem r_n56_36 : n56_36 s = behK 1125899911036986 (stepsO X (annT 56) C (gO c56_36) o56_36.1 s) := q_region (annT 56) s 11 _ false rfl _ _ rfl rfl o56_36.2
theorem g_o56_36 : gdst (gO c56_36) j = (o56_36.1[j]?).bind Oper.dst := gd_eq o56_36.2 j
theorem r_n56_38 : n56_38 s = some (.norm, s) := run_skip _ s
theorem r_n56_39 : n56_39 s = behK 1125899911036986 (stepsO X (annT 56) C (gO c56_39) o56_39.1 s) := q_region (annT 56) s 12 _ false rfl _ _ rfl rfl o56_39.2
theorem g_o56_39 : gdst (gO c56_39) j = (o56_39.1[j]?).bind Oper.dst := gd_eq o56_39.2 j
theorem r_n56_37 : n56_37 s = condK (opv s.t (.tmp 50)) n56_38 n56_39 s := q_cond _ c56_38 c56_39 s (.tmp 50)
theorem r_n56_35 : n56_35 s = contK n56_37 (n56_36 s) := q_seq _ c56_36 c56_37 s
theorem r_n56_33 : n56_33 s = condK (opv s.t (.tmp 50)) n56_34 n56_35 s := q_cond _ c56_34 c56_35 s (.tmp 50)
theorem r_n56_31 : n56_31 s = contK n56_33 (n56_32 s) := q_seq _ c56_32 c56_33 s
theorem r_n56_29 : n56_29 s = condK (opv s.t (.tmp 50)) n56_30 n56_31 s := q_cond _ c56_30 c56_31 s (.tmp 50)
theorem r_n56_27 : n56_27 s = contK n56_29 (n56_28 s) := q_seq _ c56_28 c56_29 s
theorem r_n56_42 : n56_42 s = behK 4 (stepsO X (annT 56) C (gO c56_42) o56_42.1 s) := q_region (annT 56) s 13 _ false rfl _ _ rfl rfl o56_42.2
theorem g_o56_42 : gdst (gO c56_42) j = (o56_42.1[j]?).bind Oper.dst := gd_eq o56_42.2 j
theorem r_n56_43 : n56_43 s = some (.ret, s) := run_ret _ s
theorem r_n56_41 : n56_41 s = contK n56_43 (n56_42 s) := q_seq _ c56_42 c56_43 s
theorem r_n56_45 : n56_45 s = behK 9444732965739294621754 (stepsO X (annT 56) C (gO c56_45) o56_45.1 s) := q_region (annT 56) s 14 _ false rfl _ _ rfl rfl o56_45.2
theorem g_o56_45 : gdst (gO c56_45) j = (o56_45.1[j]?).bind Oper.dst := gd_eq o56_45.2 j
theorem r_n56_48 : n56_48 s = behK 4 (stepsO X (annT 56) C (gO c56_48) o56_48.1 s) := q_region (annT 56) s 15 _ false rfl _ _ rfl rfl o56_48.2
theorem g_o56_48 : gdst (gO c56_48) j = (o56_48.1[j]?).bind Oper.dst := gd_eq o56_48.2 j
theorem r_n56_49 : n56_49 s = some (.ret, s) := run_ret _ s
theorem r_n56_47 : n56_47 s = contK n56_49 (n56_48 s) := q_seq _ c56_48 c56_49 s
theorem r_n56_51 : n56_51 s = behK 4951760157141521099600691258 (stepsO X (annT 56) C (gO c56_51) o56_51.1 s) := q_region (annT 56) s 16 _ false rfl _ _ rfl rfl o56_51.2
theorem g_o56_51 : gdst (gO c56_51) j = (o56_51.1[j]?).bind Oper.dst := gd_eq o56_51.2 j
theorem r_n56_54 : n56_54 s = behK 4 (stepsO X (annT 56) C (gO c56_54) o56_54.1 s) := q_region (annT 56) s 17 _ false rfl _ _ rfl rfl o56_54.2
theorem g_o56_54 : gdst (gO c56_54) j = (o56_54.1[j]?).bind Oper.dst := gd_eq o56_54.2 j
theorem r_n56_55 : n56_55 s = some (.ret, s) := run_ret _ s
theorem r_n56_53 : n56_53 s = contK n56_55 (n56_54 s) := q_seq _ c56_54 c56_55 s
theorem r_n56_57 : n56_57 s = behK 664613997892457936451903530140172338 (stepsO X (annT 56) C (gO c56_57) o56_57.1 s) := q_region (annT 56) s 18 _ false rfl _ _ rfl rfl o56_57.2
theorem g_o56_57 : gdst (gO c56_57) j = (o56_57.1[j]?).bind Oper.dst := gd_eq o56_57.2 j
theorem r_n56_60 : n56_60 s = behK 4 (stepsO X (annT 56) C (gO c56_60) o56_60.1 s) := q_region (annT 56) s 19 _ false rfl _ _ rfl rfl o56_60.2
theorem g_o56_60 : gdst (gO c56_60) j = (o56_60.1[j]?).bind Oper.dst := gd_eq o56_60.2 j
theorem r_n56_61 : n56_61 s = some (.ret, s) := run_ret _ s
theorem r_n56_59 : n56_59 s = contK n56_61 (n56_60 s) := q_seq _ c56_60 c56_61 s
theorem r_n56_62 : n56_62 s = some (.norm, s) := run_skip _ s
theorem r_n56_58 : n56_58 s = condK (opv s.t (.tmp 119)) n56_59 n56_62 s := q_cond _ c56_59 c56_62 s (.tmp 119)
theorem r_n56_56 : n56_56 s = contK n56_58 (n56_57 s) := q_seq _ c56_57 c56_58 s
theorem r_n56_52 : n56_52 s = condK (opv s.t (.tmp 92)) n56_53 n56_56 s := q_cond _ c56_53 c56_56 s (.tmp 92)
theorem r_n56_50 : n56_50 s = contK n56_52 (n56_51 s) := q_seq _ c56_51 c56_52 s
theorem r_n56_46 : n56_46 s = condK (opv s.t (.tmp 73)) n56_47 n56_50 s := q_cond _ c56_47 c56_50 s (.tmp 73)
theorem r_n56_44 : n56_44 s = contK n56_46 (n56_45 s) := q_seq _ c56_45 c56_46 s
theorem r_n56_40 : n56_40 s = condK (opv s.t (.tmp 50)) n56_41 n56_44 s := q_cond _ c56_41 c56_44 s (.tmp 50)
theorem r_n56_26 : n56_26 s = contK n56_40 (n56_27 s) := q_seq _ c56_27 c56_40 s
theorem r_n56_22 : n56_22 s = condK (opv s.t (.tmp 23)) n56_23 n56_26 s := q_cond _ c56_23 c56_26 s (.tmp 23)
theorem r_n56_12 : n56_12 s = contK n56_22 (n56_13 s) := q_seq _ c56_13 c56_22 s
theorem r_n56_11 : n56_11 s = blkK 0 (n56_12 s) := q_block _ c56_12 s 0
theorem r_n56_9 : n56_9 s = contK n56_11 (n56_10 s) := q_seq _ c56_10 c56_11 s
theorem r_n56_64 : n56_64 s = behK 4 (stepsO X (annT 56) C (gO c56_64) o56_64.1 s) := q_region (annT 56) s 20 _ false rfl _ _ rfl rfl o56_64.2
theorem g_o56_64 : gdst (gO c56_64) j = (o56_64.1[j]?).bind Oper.dst := gd_eq o56_64.2 j
theorem r_n56_65 : n56_65 s = some (.ret, s) := run_ret _ s
theorem r_n56_63 : n56_63 s = contK n56_65 (n56_64 s) := q_seq _ c56_64 c56_65 s
theorem r_n56_8 : n56_8 s = contK n56_63 (n56_9 s) := q_seq _ c56_9 c56_63 s
theorem r_n56_6 : n56_6 s = contK n56_8 (n56_7 s) := q_seq _ c56_7 c56_8 s
theorem r_n56_4 : n56_4 s = contK n56_6 (n56_5 s) := q_seq _ c56_5 c56_6 s
theorem r_n56_2 : n56_2 s = contK n56_4 (n56_3 s) := q_seq _ c56_3 c56_4 s
theorem r_n56_0 : n56_0 s = contK n56_2 (n56_1 s) := q_seq _ c56_1 c56_2 s
theorem va_56 : (annT 56).virt = [] := rfl
theorem wa_56 : (annT 56).wr = [] := rfl
theorem ya_56 : (annT 56).ty = [] := rfl
theorem cv_56 (call : Eng.Call) (wr : Bool) (args : List AV) (st : Store) : callV X call wr 56 args st = cvP call wr 56 args st (fzAll (fz false st 6) args) := cv_pure rfl rfl call wr args st
theorem p56 (ds : List D) : pureCall C 56 ds = ((n56_0 ⟨argsT 0 (ds.map .d), []⟩).bind (bodyR [.tmp 2])).bind prOf := P_eq Try.f56 rfl rfl rfl rfl ds
theorem q56 (vs : List AV) (st : Store) : C 56 vs st = (n56_0 ⟨argsT 0 vs, st⟩).bind (bodyR [.tmp 2]) := C_eq Try.f56 rfl rfl rfl rfl vs st
attribute [go_sem] r_n56_1 g_o56_1 o56_1 r_n56_3 g_o56_3 o56_3 r_n56_5 g_o56_5 o56_5 r_n56_7 g_o56_7 o56_7 r_n56_10 g_o56_10 o56_10 r_n56_14 g_o56_14 o56_14 r_n56_16 r_n56_18 g_o56_18 o56_18 r_n56_20 r_n56_21 g_o56_21 o56_21 r_n56_19 r_n56_17 r_n56_15 r_n56_13 r_n56_24 g_o56_24 o56_24 r_n56_25 r_n56_23 r_n56_28 g_o56_28 o56_28 r_n56_30 r_n56_32 g_o56_32 o56_32 r_n56_34 r_n56_36 g_o56_36 o56_36 r_n56_38 r_n56_39 g_o56_39 o56_39 r_n56_37 r_n56_35 r_n56_33 r_n56_31 r_n56_29 r_n56_27 r_n56_42 g_o56_42 o56_42 r_n56_43 r_n56_41 r_n56_45 g_o56_45 o56_45 r_n56_48 g_o56_48 o56_48 r_n56_49 r_n56_47 r_n56_51 g_o56_51 o56_51 r_n56_54 g_o56_54 o56_54 r_n56_55 r_n56_53 r_n56_57 g_o56_57 o56_57 r_n56_60 g_o56_60 o56_60 r_n56_61 r_n56_59 r_n56_62 r_n56_58 r_n56_56 r_n56_52 r_n56_50 r_n56_46 r_n56_44 r_n56_40 r_n56_26 r_n56_22 r_n56_12 r_n56_11 r_n56_9 r_n56_64 g_o56_64 o56_64 r_n56_65 r_n56_63 r_n56_8 r_n56_6 r_n56_4 r_n56_2 r_n56_0 va_56 wa_56 ya_56 cv_56
noncomputable def c79_0 : Code := Try.f79.body.getD .skip
noncomputable def A79 := run (annT 79)
def n79_0 := A79 c79_0
def c79_1 := gL c79_0
def n79_1 := A79 c79_1
def o79_1 : OL c79_1 := ⟨_, by conv => (lhs; whnf)⟩
def c79_2 := gR c79_0
def n79_2 := A79 c79_2
def c79_3 := gL c79_2
def n79_3 := A79 c79_3
def c79_4 := gL c79_3
def n79_4 := A79 c79_4
def o79_4 : OL c79_4 := ⟨_, by conv => (lhs; whnf)⟩
def c79_5 := gR c79_3
def n79_5 := A79 c79_5
def c79_6 := gB c79_5
def n79_6 := A79 c79_6
def c79_7 := gB c79_6
def n79_7 := A79 c79_7
def c79_8 := gL c79_7
def n79_8 := A79 c79_8
def o79_8 : OL c79_8 := ⟨_, by conv => (lhs; whnf)⟩
def c79_9 := gR c79_7
def n79_9 := A79 c79_9
def c79_10 := gL c79_9
def n79_10 := A79 c79_10
def c79_11 := gT c79_10
def n79_11 := A79 c79_11
def c79_12 := gF c79_10
def n79_12 := A79 c79_12
def c79_13 := gR c79_9
def n79_13 := A79 c79_13
def c79_14 := gL c79_13
def n79_14 := A79 c79_14
def c79_15 := gB c79_14
def n79_15 := A79 c79_15
def c79_16 := gL c79_15
def n79_16 := A79 c79_16
def o79_16 : OL c79_16 := ⟨_, by conv => (lhs; whnf)⟩
def c79_17 := gR c79_15
def n79_17 := A79 c79_17
def c79_18 := gL c79_17
def n79_18 := A79 c79_18
def o79_18 : OL c79_18 := ⟨_, by conv => (lhs; whnf)⟩
def c79_19 := gR c79_17
def n79_19 := A79 c79_19
def c79_20 := gT c79_19
def n79_20 := A79 c79_20
def c79_21 := gL c79_20
def n79_21 := A79 c79_21
def o79_21 : OL c79_21 := ⟨_, by conv => (lhs; whnf)⟩
def c79_22 := gR c79_20
def n79_22 := A79 c79_22
def c79_23 := gF c79_19
def n79_23 := A79 c79_23
def c79_24 := gR c79_13
def n79_24 := A79 c79_24
def o79_24 : OL c79_24 := ⟨_, by conv => (lhs; whnf)⟩
def c79_25 := gR c79_2
def n79_25 := A79 c79_25
def c79_26 := gL c79_25
def n79_26 := A79 c79_26
def o79_26 : OL c79_26 := ⟨_, by conv => (lhs; whnf)⟩
def c79_27 := gR c79_25
def n79_27 := A79 c79_27
theorem r_n79_1 : n79_1 s = behK 3 (stepsO X (annT 79) C (gO c79_1) o79_1.1 s) := q_region (annT 79) s 0 _ false rfl _ _ rfl rfl o79_1.2
theorem g_o79_1 : gdst (gO c79_1) j = (o79_1.1[j]?).bind Oper.dst := gd_eq o79_1.2 j
theorem r_n79_4 : n79_4 s = behK 387 (stepsO X (annT 79) C (gO c79_4) o79_4.1 s) := q_region (annT 79) s 1 _ false rfl _ _ rfl rfl o79_4.2
theorem g_o79_4 : gdst (gO c79_4) j = (o79_4.1[j]?).bind Oper.dst := gd_eq o79_4.2 j
theorem r_n79_8 : n79_8 s = behK 899 (stepsO X (annT 79) C (gO c79_8) o79_8.1 s) := q_region (annT 79) s 2 _ false rfl _ _ rfl rfl o79_8.2
theorem g_o79_8 : gdst (gO c79_8) j = (o79_8.1[j]?).bind Oper.dst := gd_eq o79_8.2 j
theorem r_n79_11 : n79_11 s = some (.norm, s) := run_skip _ s
theorem r_n79_12 : n79_12 s = some (.exit 0, s) := run_exit _ s 0
theorem r_n79_10 : n79_10 s = condK (opv s.t (.tmp 9)) n79_11 n79_12 s := q_cond _ c79_11 c79_12 s (.tmp 9)
theorem r_n79_16 : n79_16 s = behK 419 (stepsO X (annT 79) C (gO c79_16) o79_16.1 s) := q_region (annT 79) s 3 _ false rfl _ _ rfl rfl o79_16.2
theorem g_o79_16 : gdst (gO c79_16) j = (o79_16.1[j]?).bind Oper.dst := gd_eq o79_16.2 j
theorem r_n79_18 : n79_18 s = behK 65955 (stepsO X (annT 79) C (gO c79_18) o79_18.1 s) := q_region (annT 79) s 4 _ false rfl _ _ rfl rfl o79_18.2
theorem g_o79_18 : gdst (gO c79_18) j = (o79_18.1[j]?).bind Oper.dst := gd_eq o79_18.2 j
theorem r_n79_21 : n79_21 s = behK 16 (stepsO X (annT 79) C (gO c79_21) o79_21.1 s) := q_region (annT 79) s 5 _ false rfl _ _ rfl rfl o79_21.2
theorem g_o79_21 : gdst (gO c79_21) j = (o79_21.1[j]?).bind Oper.dst := gd_eq o79_21.2 j
theorem r_n79_22 : n79_22 s = some (.ret, s) := run_ret _ s
theorem r_n79_20 : n79_20 s = contK n79_22 (n79_21 s) := q_seq _ c79_21 c79_22 s
theorem r_n79_23 : n79_23 s = some (.norm, s) := run_skip _ s
theorem r_n79_19 : n79_19 s = condK (opv s.t (.tmp 16)) n79_20 n79_23 s := q_cond _ c79_20 c79_23 s (.tmp 16)
theorem r_n79_17 : n79_17 s = contK n79_19 (n79_18 s) := q_seq _ c79_18 c79_19 s
theorem r_n79_15 : n79_15 s = contK n79_17 (n79_16 s) := q_seq _ c79_16 c79_17 s
theorem r_n79_14 : n79_14 s = blkK 1 (n79_15 s) := q_block _ c79_15 s 1
theorem r_n79_24 : n79_24 s = behK 387 (stepsO X (annT 79) C (gO c79_24) o79_24.1 s) := q_region (annT 79) s 6 _ false rfl _ _ rfl rfl o79_24.2
theorem g_o79_24 : gdst (gO c79_24) j = (o79_24.1[j]?).bind Oper.dst := gd_eq o79_24.2 j
theorem r_n79_13 : n79_13 s = contK n79_24 (n79_14 s) := q_seq _ c79_14 c79_24 s
theorem r_n79_9 : n79_9 s = contK n79_13 (n79_10 s) := q_seq _ c79_10 c79_13 s
theorem r_n79_7 : n79_7 s = contK n79_9 (n79_8 s) := q_seq _ c79_8 c79_9 s
theorem r_n79_6 : n79_6 s = loopK 387 s.st.length n79_6 (n79_7 s) := q_loop (annT 79) c79_7 s _ _ rfl rfl
theorem r_n79_5 : n79_5 s = blkK 0 (n79_6 s) := q_block _ c79_6 s 0
theorem r_n79_3 : n79_3 s = contK n79_5 (n79_4 s) := q_seq _ c79_4 c79_5 s
theorem r_n79_26 : n79_26 s = behK 16 (stepsO X (annT 79) C (gO c79_26) o79_26.1 s) := q_region (annT 79) s 7 _ false rfl _ _ rfl rfl o79_26.2
theorem g_o79_26 : gdst (gO c79_26) j = (o79_26.1[j]?).bind Oper.dst := gd_eq o79_26.2 j
theorem r_n79_27 : n79_27 s = some (.ret, s) := run_ret _ s
theorem r_n79_25 : n79_25 s = contK n79_27 (n79_26 s) := q_seq _ c79_26 c79_27 s
theorem r_n79_2 : n79_2 s = contK n79_25 (n79_3 s) := q_seq _ c79_3 c79_25 s
theorem r_n79_0 : n79_0 s = contK n79_2 (n79_1 s) := q_seq _ c79_1 c79_2 s
theorem va_79 : (annT 79).virt = [] := rfl
theorem wa_79 : (annT 79).wr = [] := rfl
theorem ya_79 : (annT 79).ty = [] := rfl
theorem cv_79 (call : Eng.Call) (wr : Bool) (args : List AV) (st : Store) : callV X call wr 79 args st = cvP call wr 79 args st (fzAll (fz false st 6) args) := cv_pure rfl rfl call wr args st
theorem p79 (ds : List D) : pureCall C 79 ds = ((n79_0 ⟨argsT 0 (ds.map .d), []⟩).bind (bodyR [.tmp 4])).bind prOf := P_eq Try.f79 rfl rfl rfl rfl ds
theorem q79 (vs : List AV) (st : Store) : C 79 vs st = (n79_0 ⟨argsT 0 vs, st⟩).bind (bodyR [.tmp 4]) := C_eq Try.f79 rfl rfl rfl rfl vs st
attribute [go_sem] r_n79_1 g_o79_1 o79_1 r_n79_4 g_o79_4 o79_4 r_n79_8 g_o79_8 o79_8 r_n79_11 r_n79_12 r_n79_10 r_n79_16 g_o79_16 o79_16 r_n79_18 g_o79_18 o79_18 r_n79_21 g_o79_21 o79_21 r_n79_22 r_n79_20 r_n79_23 r_n79_19 r_n79_17 r_n79_15 r_n79_14 r_n79_24 g_o79_24 o79_24 r_n79_13 r_n79_9 r_n79_7 r_n79_5 r_n79_3 r_n79_26 g_o79_26 o79_26 r_n79_27 r_n79_25 r_n79_2 r_n79_0 va_79 wa_79 ya_79 cv_79
noncomputable def c57_0 : Code := Try.f57.body.getD .skip
noncomputable def A57 := run (annT 57)
def n57_0 := A57 c57_0
def c57_1 := gL c57_0
def n57_1 := A57 c57_1
def o57_1 : OL c57_1 := ⟨_, by conv => (lhs; whnf)⟩
def c57_2 := gR c57_0
def n57_2 := A57 c57_2
def c57_3 := gL c57_2
def n57_3 := A57 c57_3
def o57_3 : OL c57_3 := ⟨_, by conv => (lhs; whnf)⟩
def c57_4 := gR c57_2
def n57_4 := A57 c57_4
theorem r_n57_1 : n57_1 s = behK 3 (stepsO X (annT 57) C (gO c57_1) o57_1.1 s) := q_region (annT 57) s 0 _ false rfl _ _ rfl rfl o57_1.2
theorem g_o57_1 : gdst (gO c57_1) j = (o57_1.1[j]?).bind Oper.dst := gd_eq o57_1.2 j
theorem r_n57_3 : n57_3 s = behK 16 (stepsO X (annT 57) C (gO c57_3) o57_3.1 s) := q_region (annT 57) s 1 _ false rfl _ _ rfl rfl o57_3.2
theorem g_o57_3 : gdst (gO c57_3) j = (o57_3.1[j]?).bind Oper.dst := gd_eq o57_3.2 j
theorem r_n57_4 : n57_4 s = some (.ret, s) := run_ret _ s
theorem r_n57_2 : n57_2 s = contK n57_4 (n57_3 s) := q_seq _ c57_3 c57_4 s
theorem r_n57_0 : n57_0 s = contK n57_2 (n57_1 s) := q_seq _ c57_1 c57_2 s
theorem va_57 : (annT 57).virt = [] := rfl
theorem wa_57 : (annT 57).wr = [] := rfl
theorem ya_57 : (annT 57).ty = [] := rfl
theorem cv_57 (call : Eng.Call) (wr : Bool) (args : List AV) (st : Store) : callV X call wr 57 args st = cvP call wr 57 args st (fzAll (fz false st 6) args) := cv_pure rfl rfl call wr args st
theorem p57 (ds : List D) : pureCall C 57 ds = ((n57_0 ⟨argsT 0 (ds.map .d), []⟩).bind (bodyR [.tmp 4])).bind prOf := P_eq Try.f57 rfl rfl rfl rfl ds
theorem q57 (vs : List AV) (st : Store) : C 57 vs st = (n57_0 ⟨argsT 0 vs, st⟩).bind (bodyR [.tmp 4]) := C_eq Try.f57 rfl rfl rfl rfl vs st
attribute [go_sem] r_n57_1 g_o57_1 o57_1 r_n57_3 g_o57_3 o57_3 r_n57_4 r_n57_2 r_n57_0 va_57 wa_57 ya_57 cv_57
noncomputable def c58_0 : Code := Try.f58.body.getD .skip
noncomputable def A58 := run (annT 58)
def n58_0 := A58 c58_0
def c58_1 := gL c58_0
def n58_1 := A58 c58_1
def o58_1 : OL c58_1 := ⟨_, by conv => (lhs; whnf)⟩
def c58_2 := gR c58_0
def n58_2 := A58 c58_2
def c58_3 := gL c58_2
def n58_3 := A58 c58_3
def o58_3 : OL c58_3 := ⟨_, by conv => (lhs; whnf)⟩
def c58_4 := gR c58_2
def n58_4 := A58 c58_4
theorem r_n58_1 : n58_1 s = behK 2 (stepsO X (annT 58) C (gO c58_1) o58_1.1 s) := q_region (annT 58) s 0 _ false rfl _ _ rfl rfl o58_1.2
theorem g_o58_1 : gdst (gO c58_1) j = (o58_1.1[j]?).bind Oper.dst := gd_eq o58_1.2 j
theorem r_n58_3 : n58_3 s = behK 4 (stepsO X (annT 58) C (gO c58_3) o58_3.1 s) := q_region (annT 58) s 1 _ false rfl _ _ rfl rfl o58_3.2
theorem g_o58_3 : gdst (gO c58_3) j = (o58_3.1[j]?).bind Oper.dst := gd_eq o58_3.2 j
theorem r_n58_4 : n58_4 s = some (.ret, s) := run_ret _ s
theorem r_n58_2 : n58_2 s = contK n58_4 (n58_3 s) := q_seq _ c58_3 c58_4 s
theorem r_n58_0 : n58_0 s = contK n58_2 (n58_1 s) := q_seq _ c58_1 c58_2 s
theorem va_58 : (annT 58).virt = [] := rfl
theorem wa_58 : (annT 58).wr = [] := rfl
theorem ya_58 : (annT 58).ty = [] := rfl
theorem cv_58 (call : Eng.Call) (wr : Bool) (args : List AV) (st : Store) : callV X call wr 58 args st = cvP call wr 58 args st (fzAll (fz false st 6) args) := cv_pure rfl rfl call wr args st
theorem p58 (ds : List D) : pureCall C 58 ds = ((n58_0 ⟨argsT 0 (ds.map .d), []⟩).bind (bodyR [.tmp 2])).bind prOf := P_eq Try.f58 rfl rfl rfl rfl ds
theorem q58 (vs : List AV) (st : Store) : C 58 vs st = (n58_0 ⟨argsT 0 vs, st⟩).bind (bodyR [.tmp 2]) := C_eq Try.f58 rfl rfl rfl rfl vs st
attribute [go_sem] r_n58_1 g_o58_1 o58_1 r_n58_3 g_o58_3 o58_3 r_n58_4 r_n58_2 r_n58_0 va_58 wa_58 ya_58 cv_58
noncomputable def c36_0 : Code := Try.f36.body.getD .skip
noncomputable def A36 := run (annT 36)
def n36_0 := A36 c36_0
def c36_1 := gL c36_0
def n36_1 := A36 c36_1
def o36_1 : OL c36_1 := ⟨_, by conv => (lhs; whnf)⟩
def c36_2 := gR c36_0
def n36_2 := A36 c36_2
def c36_3 := gL c36_2
def n36_3 := A36 c36_3
def o36_3 : OL c36_3 := ⟨_, by conv => (lhs; whnf)⟩
def c36_4 := gR c36_2
def n36_4 := A36 c36_4
theorem r_n36_1 : n36_1 s = behK 2 (stepsO X (annT 36) C (gO c36_1) o36_1.1 s) := q_region (annT 36) s 0 _ false rfl _ _ rfl rfl o36_1.2
theorem g_o36_1 : gdst (gO c36_1) j = (o36_1.1[j]?).bind Oper.dst := gd_eq o36_1.2 j
theorem r_n36_3 : n36_3 s = behK 4 (stepsO X (annT 36) C (gO c36_3) o36_3.1 s) := q_region (annT 36) s 1 _ false rfl _ _ rfl rfl o36_3.2
theorem g_o36_3 : gdst (gO c36_3) j = (o36_3.1[j]?).bind Oper.dst := gd_eq o36_3.2 j
theorem r_n36_4 : n36_4 s = some (.ret, s) := run_ret _ s
theorem r_n36_2 : n36_2 s = contK n36_4 (n36_3 s) := q_seq _ c36_3 c36_4 s
theorem r_n36_0 : n36_0 s = contK n36_2 (n36_1 s) := q_seq _ c36_1 c36_2 s
theorem va_36 : (annT 36).virt = [] := rfl
theorem wa_36 : (annT 36).wr = [] := rfl
theorem ya_36 : (annT 36).ty = [] := rfl
theorem cv_36 (call : Eng.Call) (wr : Bool) (args : List AV) (st : Store) : callV X call wr 36 args st = cvP call wr 36 args st (fzAll (fz false st 6) args) := cv_pure rfl rfl call wr args st
theorem p36 (ds : List D) : pureCall C 36 ds = ((n36_0 ⟨argsT 0 (ds.map .d), []⟩).bind (bodyR [.tmp 2])).bind prOf := P_eq Try.f36 rfl rfl rfl rfl ds
theorem q36 (vs : List AV) (st : Store) : C 36 vs st = (n36_0 ⟨argsT 0 vs, st⟩).bind (bodyR [.tmp 2]) := C_eq Try.f36 rfl rfl rfl rfl vs st
attribute [go_sem] r_n36_1 g_o36_1 o36_1 r_n36_3 g_o36_3 o36_3 r_n36_4 r_n36_2 r_n36_0 va_36 wa_36 ya_36 cv_36
noncomputable def c20_0 : Code := Try.f20.body.getD .skip
noncomputable def A20 := run (annT 20)
def n20_0 := A20 c20_0
def c20_1 := gL c20_0
def n20_1 := A20 c20_1
def o20_1 : OL c20_1 := ⟨_, by conv => (lhs; whnf)⟩
def c20_2 := gR c20_0
def n20_2 := A20 c20_2
def c20_3 := gL c20_2
def n20_3 := A20 c20_3
def c20_4 := gL c20_3
def n20_4 := A20 c20_4
def o20_4 : OL c20_4 := ⟨_, by conv => (lhs; whnf)⟩
def c20_5 := gR c20_3
def n20_5 := A20 c20_5
def c20_6 := gT c20_5
def n20_6 := A20 c20_6
def c20_7 := gL c20_6
def n20_7 := A20 c20_7
def o20_7 : OL c20_7 := ⟨_, by conv => (lhs; whnf)⟩
def c20_8 := gR c20_6
def n20_8 := A20 c20_8
def c20_9 := gF c20_5
def n20_9 := A20 c20_9
def c20_10 := gR c20_2
def n20_10 := A20 c20_10
def c20_11 := gL c20_10
def n20_11 := A20 c20_11
def o20_11 : OL c20_11 := ⟨_, by conv => (lhs; whnf)⟩
def c20_12 := gR c20_10
def n20_12 := A20 c20_12
theorem r_n20_1 : n20_1 s = behK 2 (stepsO X (annT 20) C (gO c20_1) o20_1.1 s) := q_region (annT 20) s 0 _ false rfl _ _ rfl rfl o20_1.2
theorem g_o20_1 : gdst (gO c20_1) j = (o20_1.1[j]?).bind Oper.dst := gd_eq o20_1.2 j
theorem r_n20_4 : n20_4 s = behK 32768 (stepsO X (annT 20) C (gO c20_4) o20_4.1 s) := q_region (annT 20) s 1 _ false rfl _ _ rfl rfl o20_4.2
theorem g_o20_4 : gdst (gO c20_4) j = (o20_4.1[j]?).bind Oper.dst := gd_eq o20_4.2 j
theorem r_n20_7 : n20_7 s = behK 4 (stepsO X (annT 20) C (gO c20_7) o20_7.1 s) := q_region (annT 20) s 2 _ false rfl _ _ rfl rfl o20_7.2
theorem g_o20_7 : gdst (gO c20_7) j = (o20_7.1[j]?).bind Oper.dst := gd_eq o20_7.2 j
theorem r_n20_8 : n20_8 s = some (.ret, s) := run_ret _ s
theorem r_n20_6 : n20_6 s = contK n20_8 (n20_7 s) := q_seq _ c20_7 c20_8 s
theorem r_n20_9 : n20_9 s = some (.norm, s) := run_skip _ s
theorem r_n20_5 : n20_5 s = condK (opv s.t (.tmp 15)) n20_6 n20_9 s := q_cond _ c20_6 c20_9 s (.tmp 15)
theorem r_n20_3 : n20_3 s = contK n20_5 (n20_4 s) := q_seq _ c20_4 c20_5 s
theorem r_n20_11 : n20_11 s = behK 4 (stepsO X (annT 20) C (gO c20_11) o20_11.1 s) := q_region (annT 20) s 3 _ false rfl _ _ rfl rfl o20_11.2
theorem g_o20_11 : gdst (gO c20_11) j = (o20_11.1[j]?).bind Oper.dst := gd_eq o20_11.2 j
theorem r_n20_12 : n20_12 s = some (.ret, s) := run_ret _ s
theorem r_n20_10 : n20_10 s = contK n20_12 (n20_11 s) := q_seq _ c20_11 c20_12 s
theorem r_n20_2 : n20_2 s = contK n20_10 (n20_3 s) := q_seq _ c20_3 c20_10 s
theorem r_n20_0 : n20_0 s = contK n20_2 (n20_1 s) := q_seq _ c20_1 c20_2 s
theorem va_20 : (annT 20).virt = [] := rfl
theorem wa_20 : (annT 20).wr = [] := rfl
theorem ya_20 : (annT 20).ty = [] := rfl
theorem cv_20 (call : Eng.Call) (wr : Bool) (args : List AV) (st : Store) : callV X call wr 20 args st = cvP call wr 20 args st (fzAll (fz false st 6) args) := cv_pure rfl rfl call wr args st
theorem p20 (ds : List D) : pureCall C 20 ds = ((n20_0 ⟨argsT 0 (ds.map .d), []⟩).bind (bodyR [.tmp 2])).bind prOf := P_eq Try.f20 rfl rfl rfl rfl ds
theorem q20 (vs : List AV) (st : Store) : C 20 vs st = (n20_0 ⟨argsT 0 vs, st⟩).bind (bodyR [.tmp 2]) := C_eq Try.f20 rfl rfl rfl rfl vs st
attribute [go_sem] r_n20_1 g_o20_1 o20_1 r_n20_4 g_o20_4 o20_4 r_n20_7 g_o20_7 o20_7 r_n20_8 r_n20_6 r_n20_9 r_n20_5 r_n20_3 r_n20_11 g_o20_11 o20_11 r_n20_12 r_n20_10 r_n20_2 r_n20_0 va_20 wa_20 ya_20 cv_20
end
end Go.L25
