import Derived.Test.YtllahcnidoodoaaGreatP04
import Derived.Test.YtllahcnidoodoaaGreatProg
import Derived.KernelRfl
import Derived.Test.YtllahcnidoodoaaGreatRows
import Derived.WalkKit
import Derived.ProofKit
import Derived.OpenShut
import Derived.ShutString
import Derived.ChangeOld
import Derived.Below
import Derived.SizedLaws
/- What was chosen for the evaluator, and facts of the types: printed by program. -/
namespace Go.Ab.Seat
open Go.Proofs
def ptakes : Nat → List Nat := fun f => match f with
  | 5 => [73]
  | 33 => [34]
  | 34 => [24]
  | 44 => [17]
  | 46 => [17]
  | 57 => [11]
  | 61 => [15]
  | 62 => [49]
  | 88 => [8]
  | 94 => [10]
  | 102 => [13]
  | 129 => [80]
  | 142 => [11]
  | 145 => [70, 66]
  | 150 => [22]
  | _ => []

def plocs : Nat → List Nat := fun f => match f with
  | 3 => [1, 5]
  | 5 => [2]
  | 10 => [1]
  | 11 => [2, 3]
  | 12 => [2]
  | 19 => [2]
  | 24 => [4]
  | 27 => [2, 4]
  | 31 => [4]
  | 57 => [4]
  | 61 => [2]
  | 62 => [4, 6, 9, 11]
  | 84 => [6, 7]
  | 88 => [4]
  | 94 => [4]
  | 95 => [2]
  | 97 => [2, 4]
  | 98 => [2, 4, 5]
  | 99 => [4, 5]
  | 100 => [2, 5, 8, 9]
  | 103 => [5]
  | 106 => [3, 6, 7, 8, 12]
  | 108 => [10]
  | 112 => [1]
  | 114 => [1]
  | 115 => [2]
  | 117 => [2]
  | 118 => [3]
  | 119 => [0]
  | 124 => [5]
  | 125 => [5]
  | 126 => [5]
  | 127 => [5, 12, 13]
  | 128 => [5]
  | 129 => [5]
  | 133 => [2]
  | 134 => [6]
  | 136 => [4, 6, 9, 14]
  | 137 => [4]
  | 138 => [2]
  | 148 => [5]
  | 164 => [1]
  | 165 => [4]
  | 166 => [3]
  | 167 => [0]
  | 171 => [7]
  | 174 => [4]
  | _ => []

def pkeeps : Nat → Option (List Bool) := fun f => match f with
  | 4 => some [false, true, true, true, true, false, false, false, false, false, false, false, false, false, false, false, false, false, false, false, false, false, false, false, false, false, false, false, false, false, false, false, false, false, false, false, false, false, false, false]
  | 6 => some [true, true, false, false, false, false, false, false, false, false, false, false, false, false, false, false, false, false, false, false, false, false, false, false, false, false, false, false, false, false, false, false, false, false, false, false, false, false, false, false, false, true, true, true, false, false, false, false, false, false, false, false, false, false, false, false, false, false, false, false, false, false, false]
  | 25 => some [false, false, true, false, true, true, false, false, false, false, false, false, false, false, false, false, false, false]
  | 42 => some [true, true, false, false, false, true, false, false, false, false, false, false, false, false, false, false, false, false, false, false, false, false, false, false, false, false, false, false, false, false, false, false, false, false, false, false, false, false, false, false, false, false]
  | 44 => some [true, false, false, true, false, false, false, true, true, false, false, false, false, false, false, false, false, false, false, false, false, false]
  | 46 => some [false, false, false, true, false, false, false, false, false, false, false, true, true, true, false, false, false, false, false, false, false, false, false, false]
  | 62 => some [true, true, false, false, false, false, false, false, true, true, false, false, false, false, false, false, false, false, false, false, false, false, false, false, false, false, false, false, false, false, false, false, false, false, false, false, false, false, false, false, false, false, false, false, false, false, false, false, false, false, false, false, false, false, false, false, false, false, false, false, false, false, false, false, false, false, false, false, false, false, false, false, false, false, false, false, false, false, false, false, false, false, false, false, false, false, false, false, false, false, false, false, false, false, false, false, false, false, false, false, false, false, false, false, false, false, false, false, false, false, false, false, false, false, false, false, false, false, false, false, false, false, false, false, false, false, false, false, false, false, false, false, false, false, false, false, false, false, false, false, false, false, false, false, false, false, false, false, false, false, false, false, false, false, false, true, true, true, false, false, false, false, false, false, false, false, false, false, false, false, false, false, false, false, false, false, false, false, false, false, false, false, false, false, false, false, false, false, false, false, false, false, false, false, false, false, false, false, false, false, false, false, false, false, false, false, false, false, false, false, false, false, false, false, true, false, false, false, false, false, false, false, false, false, false, false, false, false, false, false, false, false, false, false, false, false, false, false, false, false, false, false, false, false]
  | 66 => some [true, true, false, false, false, true, true, false, false, false, false, false, false, false, false, false, false, false]
  | 74 => some [true, true, false, false, false, true, false, false, false, false, false, false, false, false, false, false, false, false, false, false, false, false, false, false, false, false]
  | 84 => some [false, true, false, false, false, false, false, false, false, false, false, false, false, false, false, true, false, false, false, false, false, false, false, false, false, false, false, false, false, false, false, false, false, false]
  | 86 => some [false, true, true, false, false, false, false, false, false, false, false, false, false, false, false, true, true, true, false, false, false, false, false, false, false, false, false, false, false, false, false, false]
  | 87 => some [true, true, false, false, false, false, false, false, false, false, false, false, true, true, false, false, false, false, false, false, false, false, false, false, false, false]
  | 88 => some [false, false, false, true, false, false, false, false, false, false, false, false, false, false, false, false]
  | 93 => some [true, false, false, false, false, false, false, false, true, true, true, false, false, false, false, false, false, false, false, false, false, false, false, false]
  | 102 => some [true, true, false, false, false, false, false, true, false, true, true, false, false, false, false, false, false, false, false, false, false, false, false]
  | 120 => some [true, true, false, false, false, true, true, false, false, false, false, false, false, false, false, false, false, false, false, false]
  | 127 => some [false, false, false, true, false, false, true, false, true, false, true, false, false, false, false, false, false, false, false, false, false, false, false, false, false, false, false, false, false, false, false, false, false, false, false, false, false, false, false, false, false, false, false, false, false, false, false, false, false, false, false, false, false, false, false, false, false, false, false, false, false, false, false, false, false, false, false, false, false, false, false, false, false, false, false, false, false, false, false, false, false, false, false, false, false, false, false, false, false, false, false, false, false, false, false, false, false, false, false, false, false, false, false, false, false, false, false, false, false, false, false, false, false, false, false, false, false, false, false, false, false, false, false, false, false, false, false, false, false, false, false, false, false, false, false, false, false, false, false, false, false, false, false, false, false, false, false, false, false, false, false, false, false, false, false, false, false, false, false, false, false, false, false, false, false, false, false, false, false, false, false, false, false, false, false, false, false, false, false, false, false, false, false, false, false, false, false, false, false]
  | 128 => some [false, false, false, true, false, false, true, false, true, true, false, false, false, false, false, false, false, false, false, false, false, false, false, false, false, false, false, false, false, false, false, false, false, false, false, false, false, false, false, false, false, false, false, false, false, false, false, false, false, false, false, false, false, false, false, false, false, false, false, false, false, false, false, false, false, false, false, false, false, false, false, false, false, false, false, false, false, false, false, false, false, false, false, false, false, false, false, false, false, false, false, false, false, false, false, false, false, false, false, false, false, false, false, false, false, false, false, false, false, false, false, false, false, false, false, false, false, false, false, false, false, false, false, false, false, false, false, false, false, false, false, false, false, false, false, false, false, false, false, false, false, false, false, false, false, false, false, false, false]
  | 129 => some [false, false, false, true, false, false, true, false, true, false, false, false, true, false, false, false, false, false, false, false, false, false, false, false, false, false, false, false, false, false, false, false, false, false, false, false, false, false, false, false, false, false, false, false, false, false, false, false, false, false, false, false, false, false, false, false, false, false, false, false, false, false, false, false, false, false, false, false, false, false, false, false, false, false, false, false, false, false, false, false, false, false, false, false, false, false, false, false, false, false, false, false, false, false, false, false, false, false, false, false, false, false, false, false, false, false, false, false, false, false, false, false, false, false, false, false, false, false, false, false, false, false, false, false, false, false, false]
  | 137 => some [true, false, false, false, false, false, false, false, false, false, true, true, true, false, false, false, false, false, false, false, false]
  | 145 => some [true, true, true, false, false, false, false, false, true, true, false, true, true, true, false, false, true, true, false, false, false, false, false, false, false, false, false, false, false, false, false, false, false, false, false, false, false, false, false, false, false, false, false, false, false, false, false, false, false, false, false, false, false, false, false, false, false, false, false, false, false, false, false, false, false, false, false, false, false, false, false, false, false, false, false, false, false, false, false, false, false, false, false, false, false, false]
  | 148 => some [false, false, true, true, true, false, false, false, false, false, false, false, false, false, false]
  | 164 => some [false, false, false, true, false, false, false, false, false, false, false, false, true, true, false, false, false, false, false, false, false, false, false, false]
  | 168 => some [true, false, false, false, true, true, false, false, false, false, false, false, false]
  | 171 => some [false, false, false, true, true, true, false, false, false, false, false, false, false, false, false, false, false]
  | 174 => some [true, false, false, false, false, false, true, true, false, false, false, false, false, false, false, false, false, false, false, false, false]
  | _ => none

def parrs : List Nat := [37, 75]
def pfrees : List Nat := [4, 100]
def porders : Nat → Nat → List (List Nat) := fun f id => match f, id with
  | 5, 7 => [[0, 1, 2, 3, 4, 5, 6, 7, 8, 9, 10, 11, 12, 13, 14, 15, 16, 17, 18, 19], [0, 1, 2, 3, 4, 5, 6, 7, 8, 9, 10, 11, 12, 13, 14, 15, 16, 17, 18, 19], [0, 1, 2, 3, 4, 5, 6, 7, 8, 9, 10, 11, 12, 13, 14, 15, 16, 18, 17, 19]]
  | 5, 9 => [[0, 1, 2, 3, 4, 5, 6, 7, 8, 9, 10, 11]]
  | 5, 10 => [[0, 1, 2, 3, 4, 5, 6, 7, 8, 9, 10, 11, 12, 13, 14, 15, 16, 17]]
  | 7, 9 => [[0, 1, 2, 3, 4, 5, 6, 7, 8, 9, 10]]
  | 9, 4 => [[0, 1, 2, 3, 4, 5, 6, 7, 8, 9, 10, 11, 12, 13, 14, 15, 16]]
  | 10, 5 => [[0, 1, 4, 6, 2, 3, 5, 7, 8, 9, 10, 11, 12]]
  | 20, 4 => [[0, 1, 2, 3, 4, 5, 6, 8, 9, 10, 11, 12, 13, 14, 16, 17, 18, 19, 20, 21, 22, 24, 25, 26, 27, 28, 29, 30, 32, 33, 34, 35, 36, 37, 38, 7, 15, 23, 31, 39, 40, 41, 42, 43, 44, 45, 46, 47, 48, 49], [0, 1, 2, 3, 4, 5, 6, 7, 8, 9, 10, 11, 12, 13, 14, 15, 16, 17, 18, 19, 20, 21, 22, 23, 24, 25, 26, 27, 28, 29, 30, 31, 32, 33, 34, 35, 36, 37, 38, 39, 40, 41, 42, 43, 44, 45, 46, 47, 48, 49], [0, 1, 2, 3, 4, 5, 6, 7, 8, 9, 10, 11, 12, 13, 14, 15, 16, 17, 18, 19, 20, 21, 22, 23, 24, 25, 26, 27, 28, 29, 30, 31, 32, 33, 34, 35, 36, 37, 38, 39, 40, 41, 42, 43, 44, 45, 46, 47, 48, 49]]
  | 21, 3 => [[0, 1, 2, 3, 4, 5, 6, 7, 8, 9, 10, 11, 12, 13, 14, 15, 16, 17, 18, 19, 20, 21, 22, 23, 24, 25, 26, 27, 28, 29, 30, 31, 32, 33, 34, 35, 36, 37, 38, 39, 40, 41, 42, 43, 44, 45, 46, 47, 48, 49, 50, 51, 52, 53, 54, 55, 56, 57, 58, 59, 60, 61, 62, 63, 64, 65, 66, 67, 68, 69, 70, 71, 72, 73, 74, 75, 76, 77, 78, 79, 80, 81, 82, 83, 84, 85, 86, 87, 88, 89, 90, 91, 92, 93, 94, 95, 96, 97, 98, 99, 100, 101, 102, 103, 104, 105, 106, 107, 108, 109, 110, 111, 112, 113, 114, 115, 116, 117, 118, 119, 120, 121, 122, 123, 124, 125, 126, 127, 128, 129, 130, 131, 132, 133, 134, 135, 136, 137, 138, 139, 140, 141, 142, 143, 144, 145, 146, 147, 148, 149, 150, 151, 152, 153, 154, 155, 156, 157, 158, 159, 160, 161, 162, 163, 164, 165, 166, 167, 168]]
  | 28, 3 => [[0, 1, 2, 3]]
  | 33, 5 => [[0, 1, 2, 3, 4, 5, 6, 7, 8, 9, 10]]
  | 34, 5 => [[0, 1, 2, 3, 5, 8, 4, 6, 7, 9, 10, 11, 12, 13, 14]]
  | 42, 6 => [[0, 1, 2, 3, 4, 5, 6, 7, 8, 9, 10, 11, 12, 13, 14, 15, 16, 17, 18, 19, 20, 21, 22, 23, 24]]
  | 49, 4 => [[0, 1, 2, 3, 5, 6, 7, 8, 4, 9, 10, 11, 12, 13], [0, 1, 2, 3, 4, 5, 6, 7, 8, 9, 10, 11, 12, 13], [0, 1, 2, 3, 4, 5, 6, 7, 8, 9, 10, 11, 12, 13]]
  | 50, 3 => [[0, 1, 2, 3, 4, 5, 6, 7, 8, 9, 10, 11]]
  | 51, 3 => [[0, 1, 2, 3, 5, 6, 7, 8, 10, 11, 12, 13, 14, 15, 16, 17, 4, 9, 18, 19, 20]]
  | 52, 4 => [[0, 1, 2, 3, 4, 5, 6, 7, 8, 9]]
  | 53, 3 => [[0, 1, 2, 3, 4, 5, 6, 7, 8, 9]]
  | 54, 3 => [[0, 1, 2, 3, 4, 5, 6, 7, 8, 9, 10, 11, 12, 13, 14, 15, 16, 17, 18, 19, 20, 21, 22, 23, 24, 25, 26, 27, 28, 29, 30, 31, 32, 33, 34, 35, 36, 37, 38, 39, 40, 41, 42, 43, 44, 45, 46, 47, 48, 49, 50, 51, 52, 53, 54, 55, 56, 57, 58, 59, 60, 61, 62, 63, 64]]
  | 55, 3 => [[0, 1, 2, 3, 4, 5, 6, 7, 8, 9, 10, 11, 12, 13, 14, 15, 16, 17, 18, 19, 20]]
  | 56, 4 => [[0, 1, 3, 2, 4, 5, 6, 7, 8, 9, 10, 11, 12, 13, 14, 15, 16, 17, 18, 19, 20, 21, 22, 23, 24, 25, 26, 27, 28, 29]]
  | 57, 1 => [[0, 1, 2, 3, 4, 6, 7, 8, 9, 5, 10, 11, 12, 13, 14]]
  | 61, 7 => [[0, 1, 2, 3, 4, 5, 6, 7, 8, 9, 10, 11]]
  | 61, 8 => [[0, 1, 2, 3, 4, 5, 6, 7, 8, 9, 10, 11, 12, 13, 14, 15, 16, 17, 18, 19, 20, 21, 22]]
  | 61, 9 => [[0, 1, 2, 3, 4, 5, 6, 7, 8, 9, 10, 11], [0, 1, 2, 3, 4, 5, 6, 7, 8, 9, 10, 11], [0, 1, 4, 5, 6, 7, 2, 3, 8, 9, 10, 11]]
  | 62, 5 => [[0, 1, 2, 3, 4, 6, 7, 8, 9, 10, 11, 12, 13, 14, 15, 16, 5, 17, 18, 19, 20, 21, 22]]
  | 62, 7 => [[0, 1, 2, 3, 4, 5, 6, 7, 8, 9, 10, 11, 12, 13, 14, 15, 16, 17, 18, 19, 20, 21, 22]]
  | 62, 8 => [[0, 1, 2, 3, 4, 5, 6, 7, 8, 9, 10, 11], [0, 1, 2, 3, 4, 5, 6, 7, 8, 9, 10, 11], [0, 4, 5, 6, 7, 1, 2, 3, 8, 9, 10, 11]]
  | 62, 12 => [[0, 1, 2, 3, 4, 5, 6, 7, 8, 9, 10, 11, 12, 13, 14, 15, 16, 17], [0, 1, 2, 3, 4, 5, 6, 7, 8, 9, 10, 11, 12, 13, 14, 15, 16, 17], [0, 1, 2, 3, 4, 5, 6, 7, 8, 9, 10, 11, 12, 13, 14, 15, 17, 16]]
  | 62, 13 => [[0, 1, 2, 3, 4, 5, 6, 7]]
  | 62, 15 => [[0, 1, 2, 3, 4, 5, 6, 7, 8, 9, 10, 11, 12, 13, 14, 15]]
  | 62, 24 => [[0, 2, 3, 1, 4, 5, 6, 7, 8, 9], [0, 1, 2, 3, 4, 5, 6, 7, 8, 9], [0, 1, 2, 3, 4, 5, 6, 8, 7, 9]]
  | 62, 36 => [[0, 1, 2, 3, 4, 5, 6, 7, 8, 9, 10, 11, 12, 13, 14, 15, 16, 17, 18, 19, 20, 21, 22]]
  | 68, 0 => [[0, 1, 2, 3, 4, 5, 6]]
  | 69, 1 => [[0, 1, 2, 3, 4, 5]]
  | 69, 2 => [[0, 1, 2, 3, 4, 5, 6]]
  | 74, 6 => [[0, 1, 2, 3, 4, 5, 6, 7, 8]]
  | 87, 6 => [[0, 1, 2, 3, 4, 5, 6, 7, 8]]
  | 88, 4 => [[1, 2, 3, 0, 4, 5, 6, 7]]
  | 89, 1 => [[0, 1, 2, 3, 4, 5, 6, 7, 8, 9, 10, 11, 12, 13, 14]]
  | 94, 1 => [[0, 1, 2, 3, 5, 6, 7, 8, 4, 9, 10, 11, 12]]
  | 98, 2 => [[0, 1, 2, 3, 4, 5, 6, 7, 8, 9, 10, 11], [0, 1, 2, 3, 4, 5, 6, 7, 8, 9, 10, 11], [0, 1, 2, 3, 4, 10, 5, 6, 7, 8, 9, 11]]
  | 100, 15 => [[0, 1, 2, 4, 5, 3, 6, 7, 8]]
  | 100, 25 => [[0, 1, 2, 4, 5, 7, 8, 3, 6, 9, 10, 11]]
  | 100, 28 => [[0, 1, 2, 4, 5, 3, 6]]
  | 100, 30 => [[0, 1, 2, 5, 6, 3, 4, 7, 8, 9, 10]]
  | 100, 33 => [[0, 2, 3, 6, 7, 1, 4, 5, 8, 9, 10]]
  | 100, 35 => [[0, 3, 4, 1, 2, 5, 6, 7]]
  | 100, 39 => [[0, 1, 2, 3, 4, 5, 6]]
  | 100, 41 => [[0, 1, 2, 3, 4]]
  | 103, 16 => [[0, 1, 2, 3, 4, 5, 6, 7, 8, 9, 10, 11, 12, 13, 14], [0, 1, 2, 3, 4, 5, 6, 7, 8, 9, 10, 11, 12, 13, 14], [0, 1, 2, 3, 4, 5, 6, 7, 8, 9, 10, 11, 13, 12, 14]]
  | 103, 19 => [[0, 1, 2, 3, 4, 5, 6, 7, 8, 9, 10, 11, 12, 13, 14], [0, 1, 2, 3, 4, 5, 6, 7, 8, 9, 10, 11, 12, 13, 14], [0, 1, 2, 3, 4, 5, 6, 7, 8, 9, 10, 11, 13, 12, 14]]
  | 106, 5 => [[0, 1, 2, 3, 4, 5, 6, 7, 8, 9, 10, 11], [0, 1, 2, 3, 4, 5, 6, 7, 8, 9, 10, 11], [0, 1, 2, 3, 4, 10, 5, 6, 7, 8, 9, 11]]
  | 106, 8 => [[1, 2, 0, 3, 4, 5, 6, 7, 8], [0, 1, 2, 3, 4, 5, 6, 7, 8], [0, 1, 2, 3, 4, 5, 7, 6, 8]]
  | 106, 10 => [[0, 1, 2, 3, 4, 5, 8, 6, 7, 9, 10]]
  | 106, 13 => [[0, 1, 2, 3, 4, 5, 6, 7]]
  | 106, 26 => [[0, 1, 2, 3, 5, 4, 6, 7]]
  | 106, 27 => [[0, 1, 2, 3, 4, 6, 5, 7, 8]]
  | 106, 29 => [[0, 1, 2, 3, 4, 5, 6, 7, 8, 9], [0, 1, 2, 3, 4, 5, 6, 7, 8, 9], [0, 1, 4, 5, 6, 7, 2, 3, 8, 9]]
  | 108, 6 => [[0, 1, 2, 3, 4, 5, 6, 7, 8, 9, 10, 11, 12, 13, 14, 15, 16], [0, 1, 2, 3, 4, 5, 6, 7, 8, 9, 10, 11, 12, 13, 14, 15, 16], [0, 1, 2, 3, 4, 5, 6, 7, 8, 9, 10, 15, 11, 12, 13, 14, 16]]
  | 118, 11 => [[0, 1, 2, 4, 5, 3, 6, 7, 8]]
  | 120, 3 => [[0, 1, 2, 3, 4, 5, 6, 7, 8, 9, 10]]
  | 121, 3 => [[0, 1, 2, 3, 4, 5, 6, 7, 8, 9, 10, 11], [0, 1, 2, 3, 4, 5, 6, 7, 8, 9, 10, 11], [0, 1, 2, 3, 4, 5, 10, 6, 7, 8, 9, 11]]
  | 124, 1 => [[0, 1, 2, 3, 4, 5, 6, 7, 8, 9, 10, 11, 12, 13, 16, 17, 14, 15, 18]]
  | 125, 2 => [[0, 2, 3, 1, 4]]
  | 126, 2 => [[0, 2, 3, 1, 4]]
  | 127, 3 => [[0, 1, 2, 3, 4, 5, 6, 7, 8, 9, 10, 11, 12, 13, 14, 15, 16, 17, 18, 19, 20, 21, 22, 23, 24, 25, 26, 27, 28, 29, 30, 31, 32, 33, 34, 35, 36, 37, 38, 39, 40]]
  | 127, 5 => [[0, 1, 2, 3, 4, 5, 6, 7, 8, 9, 10, 11, 12, 13, 14, 15, 16, 17, 18, 19, 20], [0, 1, 2, 3, 4, 5, 6, 7, 8, 9, 10, 11, 12, 13, 14, 15, 16, 17, 18, 19, 20], [0, 1, 2, 3, 4, 5, 6, 7, 8, 9, 10, 11, 12, 13, 14, 15, 16, 18, 19, 17, 20]]
  | 127, 9 => [[0, 1, 2, 3, 4, 5, 7, 8, 9, 6, 10, 11, 12, 13, 14], [0, 1, 2, 3, 4, 5, 6, 7, 8, 9, 10, 11, 12, 13, 14], [0, 1, 2, 3, 4, 5, 6, 7, 8, 9, 10, 11, 12, 13, 14]]
  | 127, 11 => [[0, 1, 2, 3, 4, 5, 6, 7, 8, 9, 10, 11, 12, 13, 14, 15, 16, 17, 18, 19, 20]]
  | 127, 13 => [[0, 1, 2, 3, 4, 5, 6, 7, 8, 9, 10, 11, 12, 13, 14, 15, 16, 17, 18, 19, 20, 21], [0, 1, 2, 3, 4, 5, 6, 7, 8, 9, 10, 11, 12, 13, 14, 15, 16, 17, 18, 19, 20, 21], [0, 1, 2, 3, 4, 5, 6, 7, 8, 9, 10, 11, 12, 13, 14, 15, 16, 17, 18, 20, 19, 21]]
  | 127, 16 => [[0, 1, 2, 3, 4, 5, 6, 7, 8, 9, 10, 11, 12, 13, 14, 15]]
  | 128, 3 => [[0, 1, 2, 3, 4, 5, 6, 7, 8, 9, 10, 11, 12, 13, 14, 15, 16, 17, 18, 19, 20, 21, 22, 23, 24, 25, 26, 27, 28]]
  | 128, 5 => [[0, 1, 2, 3, 4, 5, 6, 7]]
  | 128, 8 => [[0, 1, 2, 3, 4, 5, 6, 7, 8, 9, 10, 11, 12, 13, 14, 15, 16, 17, 18, 19, 20, 21]]
  | 128, 9 => [[0, 1, 2, 3, 4, 5, 6, 8, 9, 10, 7, 11, 12, 13]]
  | 128, 11 => [[0, 1, 2, 3, 4, 5, 6, 7, 8, 9, 10, 11, 12, 13, 14, 15, 16, 17, 18, 19, 20, 21, 22]]
  | 129, 2 => [[0, 1, 2, 3, 4, 5, 6, 7, 8, 9, 10, 11, 12, 13, 14, 15, 16, 17, 18, 19, 20, 21, 22, 23, 24, 25, 26, 27, 28, 29, 30]]
  | 129, 7 => [[0, 1, 2, 3, 4, 5, 6, 7, 8, 9, 10, 11, 12, 13, 14, 15, 16, 17, 18, 19, 20, 21], [0, 1, 2, 3, 4, 5, 6, 7, 8, 9, 10, 11, 12, 13, 14, 15, 16, 17, 18, 19, 20, 21], [0, 1, 2, 3, 4, 5, 6, 7, 8, 9, 10, 11, 12, 13, 14, 15, 16, 17, 18, 20, 19, 21]]
  | 129, 9 => [[0, 1, 2, 3, 4, 5, 6, 7, 8, 9, 10, 11, 12, 13, 14, 15, 16, 17], [0, 1, 2, 3, 4, 5, 6, 7, 8, 9, 10, 11, 12, 13, 14, 15, 16, 17], [0, 1, 2, 3, 4, 5, 6, 7, 8, 9, 10, 11, 12, 13, 15, 16, 14, 17]]
  | 129, 14 => [[0, 1, 2, 3, 5, 6, 7, 8, 9, 10, 4, 11, 12, 13]]
  | 129, 15 => [[0, 1, 2, 3, 4]]
  | 133, 1 => [[0, 1, 2, 3, 4, 5, 6, 7, 8, 10, 11, 13, 9, 12, 14, 15]]
  | 136, 16 => [[0, 1, 2, 3, 4, 5, 6, 7, 8, 9, 10, 11, 12]]
  | 136, 17 => [[0, 1, 3, 4, 5, 2, 6, 7]]
  | 148, 3 => [[0, 1, 2, 4, 5, 3, 6, 7, 8], [0, 1, 2, 3, 4, 5, 6, 7, 8], [0, 1, 2, 3, 6, 4, 5, 7, 8]]
  | 150, 5 => [[0, 1, 2, 3, 5, 4, 6, 7, 8, 9, 10, 11]]
  | 166, 8 => [[0, 1, 2, 3, 4, 5, 6, 7]]
  | _, _ => []

def pneeds : Nat → Nat → List Nat := fun f id => match f, id with
  | 5, 7 => [0, 1, 2, 3, 4, 5, 6, 7, 8, 9, 10, 11, 12, 13]
  | 5, 9 => [0, 7]
  | 5, 10 => [0, 1, 2, 3, 4, 5, 6, 7, 8, 9, 10, 11, 12, 13, 14]
  | 7, 9 => [3, 6, 7, 8]
  | 9, 4 => [0, 1, 2, 3, 4, 5, 6, 7, 8, 9, 10, 11, 12, 13, 14, 15]
  | 20, 4 => [0, 1, 2, 3, 4, 5, 6, 7, 8, 9, 10, 11, 12, 13, 14, 15, 16, 17, 18, 19, 20, 21, 22, 23, 24, 25, 26, 27, 28, 29, 30, 31, 32, 33, 34, 35, 36, 37, 38]
  | 21, 3 => [0, 1, 2, 3, 4, 5, 6, 7, 8, 9, 10, 11, 12, 13, 16, 17, 18, 19, 20, 21, 22, 23, 24, 25, 26, 27, 28, 29, 33, 34, 35, 36, 37, 38, 39, 40, 41, 42, 43, 44, 45, 46, 50, 51, 52, 53, 54, 55, 56, 57, 58, 59, 60, 61, 62, 63, 67, 68, 69, 70, 71, 72, 73, 74, 75, 76, 77, 78, 79, 80, 84, 85, 86, 87, 88, 89, 90, 91, 92, 93, 94, 95, 96, 97, 101, 102, 103, 104, 105, 106, 107, 108, 109, 110, 111, 112, 113, 114, 118, 119, 120, 121, 122, 123, 124, 125, 126, 127, 128, 129, 130, 131, 135, 136, 137, 138, 139, 140, 141, 142, 143, 144, 145, 146, 147, 148, 152, 153, 154, 155, 156, 157, 158, 159, 160, 161, 162, 163, 164, 165]
  | 33, 5 => [0, 1, 2, 3, 4, 5, 6, 7, 8]
  | 34, 5 => [0, 11]
  | 42, 6 => [0, 1, 2, 3, 4, 5, 6, 7, 8, 9, 12, 13, 14, 15, 16, 17, 18, 19, 20, 21]
  | 49, 4 => [0, 1, 2, 3, 4, 5, 6, 7, 8]
  | 50, 3 => [0, 1, 2, 3, 4, 5, 6, 7, 8]
  | 51, 3 => [0, 1, 2, 3, 4, 5, 6, 7, 8, 9, 10, 11, 12, 13, 14, 15, 16, 17]
  | 52, 4 => [0, 1, 2, 3, 4, 5, 6, 7]
  | 53, 3 => [0, 1, 2, 3, 4, 5, 6, 7]
  | 54, 3 => [0, 1, 2, 3, 4, 5, 6, 7, 10, 11, 12, 13, 14, 15, 16, 17, 21, 22, 23, 24, 25, 26, 27, 28, 32, 33, 34, 35, 36, 37, 38, 39, 43, 44, 45, 46, 47, 48, 49, 50, 54, 55, 56, 57, 58, 59, 60, 61]
  | 55, 3 => [0, 1, 2, 3, 4, 5, 6, 7, 10, 11, 12, 13, 14, 15, 16, 17]
  | 56, 4 => [7, 8, 9, 10, 11, 12, 13, 14, 15, 19, 20, 21, 22, 23, 24, 25, 26]
  | 57, 1 => [0, 10]
  | 61, 7 => [0, 7]
  | 61, 8 => [0, 1, 2, 3, 4, 5, 6, 7, 8, 9, 10, 11, 12, 13, 14, 15, 16, 17, 18, 19]
  | 61, 9 => [0, 1, 3, 4, 5, 6, 7]
  | 62, 5 => [0, 1, 2, 3, 4, 5, 9, 12, 15, 16, 18]
  | 62, 7 => [0, 1, 2, 3, 4, 5, 6, 7, 8, 9, 10, 11, 12, 13, 14, 15, 16, 17, 18, 19]
  | 62, 8 => [0, 1, 3, 4, 5, 6, 7]
  | 62, 12 => [0, 1, 2, 3, 4, 5, 6, 7, 8, 9, 10, 11, 12]
  | 62, 13 => [0, 1, 2, 3, 4, 5]
  | 62, 15 => [0, 1, 2, 3, 4, 5, 6, 7, 8, 9, 10, 11, 12, 13, 14]
  | 62, 24 => [0, 1, 3]
  | 62, 36 => [0, 1, 2, 3, 4, 5, 6, 7, 8, 9, 10, 11, 12, 13, 14, 15, 16, 17, 18, 19]
  | 68, 0 => [3, 4]
  | 69, 1 => [3, 4]
  | 69, 2 => [3, 4, 5]
  | 74, 6 => [0, 1, 2, 3, 4, 5, 6, 7]
  | 87, 6 => [0, 1, 2, 3, 4, 5, 6, 7]
  | 88, 4 => [0, 3, 6]
  | 89, 1 => [3, 6, 10, 11]
  | 94, 1 => [0, 9]
  | 98, 2 => [0, 1, 2, 3, 4, 5, 6, 7, 8, 9, 10]
  | 100, 15 => [0, 1, 2, 3, 4, 5]
  | 100, 25 => [0, 1, 2, 3, 4, 5, 6, 7, 8]
  | 100, 28 => [0, 2, 4, 5]
  | 100, 30 => [0, 1, 2, 3, 4, 5, 6]
  | 100, 33 => [0, 1, 2, 3, 4, 5, 6, 7]
  | 100, 35 => [0, 1, 2, 4]
  | 100, 39 => [0, 1, 3]
  | 103, 16 => [3, 6, 10, 11, 12]
  | 103, 19 => [3, 6, 10, 11, 12]
  | 106, 5 => [0, 1, 2, 3, 4, 5, 6, 7, 8, 9, 10]
  | 106, 8 => [0, 2]
  | 106, 10 => [1, 2, 3, 4, 5, 6, 7, 8]
  | 106, 13 => [1, 2, 3, 4]
  | 106, 26 => [0, 1, 2, 3, 4, 5]
  | 106, 27 => [0, 1, 2, 3, 4, 5, 6]
  | 106, 29 => [0, 1, 2, 3, 4, 5, 6, 7]
  | 108, 6 => [0, 1, 2, 3, 4, 5, 6, 7, 8, 9, 10, 11, 12, 13, 14, 15]
  | 118, 11 => [0, 1, 2, 3, 4, 5]
  | 120, 3 => [0, 4, 5, 6, 7]
  | 121, 3 => [0, 1, 2, 3, 4, 5, 6, 7, 8, 9, 10]
  | 124, 1 => [0, 1, 2, 3, 4, 5, 6, 7, 8, 9, 10, 11, 12, 13, 16, 17]
  | 127, 3 => [3, 4, 5, 6, 7, 8, 9, 10, 11, 12, 13, 14, 15, 16, 17, 23, 28, 31, 38]
  | 127, 5 => [0, 1, 2, 3, 4, 5, 6, 7, 8, 9, 10, 11, 12, 13, 18]
  | 127, 9 => [2, 3, 4, 7, 8, 9, 11, 12]
  | 127, 11 => [0, 1, 2, 3, 4, 5, 6, 7, 8, 9, 10, 11, 12, 13, 14, 15, 16, 17, 18, 19]
  | 127, 13 => [0, 1, 2, 3, 4, 5, 6, 7, 8, 9, 10, 11, 12, 13, 14, 15]
  | 127, 16 => [0, 1, 2, 3, 4, 5, 6, 7, 8, 9, 10, 11, 12, 13, 14]
  | 128, 3 => [7, 8, 9, 10, 11, 12, 13, 14, 15, 16, 17, 18, 19, 20, 21, 22, 23, 24, 25, 26]
  | 128, 5 => [0, 1, 2, 3, 4, 5]
  | 128, 8 => [0, 1, 2, 3, 4, 5, 6, 7, 8, 9, 10, 11, 12, 13, 14, 15, 16, 17, 18, 19, 20]
  | 128, 9 => [0, 3, 4, 5, 8, 9, 10]
  | 128, 11 => [0, 1, 2, 3, 4, 5, 6, 7, 8, 9, 10, 11, 12, 13, 14, 15, 16, 17, 18, 19, 20, 21]
  | 129, 2 => [5, 9, 10, 11, 12, 13, 14, 15, 16, 17, 18, 19, 20, 21, 22, 23, 24, 25, 26, 27, 28]
  | 129, 7 => [0, 1, 2, 3, 4, 5, 6, 7, 8, 9, 10, 11, 12, 13, 14, 15]
  | 129, 9 => [3, 6, 9, 10, 15]
  | 129, 14 => [0, 1, 2, 3, 4, 7, 8, 9]
  | 129, 15 => [0, 3]
  | 133, 1 => [0, 1, 2, 3, 4, 5, 6, 7, 8, 9, 10, 11, 13]
  | 136, 16 => [3, 6, 9, 10]
  | 136, 17 => [0, 6]
  | 148, 3 => [0, 1, 2, 3, 4, 5, 6]
  | 150, 5 => [0, 8]
  | _, _ => []

def pwrs : Nat → Nat → List Nat := fun f id => match f, id with
  | 5, 7 => [40, 41, 42, 43, 44, 45, 46, 47, 48, 49, 50, 51, 52, 53, 54, 39, 55, 56, 5, 6]
  | 5, 9 => [68, 69, 70, 71, 72, 73, 74, 75, 76, 77, 78]
  | 5, 10 => [79, 80, 81, 82, 83, 84, 85, 86, 87, 88, 89, 90, 91, 92, 93, 94, 95]
  | 7, 9 => [33, 34, 35, 36, 37, 38, 39, 40, 41, 42, 6]
  | 9, 4 => [22, 23, 24, 25, 26, 27, 28, 29, 30, 31, 32, 33, 34, 35, 36, 37, 38]
  | 10, 5 => [26, 27, 28, 29, 30, 31, 32, 33, 34, 35, 36, 2, 3]
  | 20, 4 => [12, 13, 14, 15, 16, 17, 18, 19, 20, 21, 22, 23, 24, 25, 26, 27, 28, 29, 30, 31, 32, 33, 34, 35, 36, 37, 38, 39, 40, 41, 42, 43, 44, 45, 46, 47, 48, 49, 50, 51, 52, 53, 54, 55, 56]
  | 21, 3 => [17, 18, 19, 20, 21, 22, 23, 24, 25, 26, 27, 28, 29, 30, 31, 32, 33, 34, 35, 36, 37, 38, 39, 40, 41, 42, 43, 44, 45, 46, 47, 48, 49, 50, 51, 52, 53, 54, 55, 56, 57, 58, 59, 60, 61, 62, 63, 64, 65, 66, 67, 68, 69, 70, 71, 72, 73, 74, 75, 76, 77, 78, 79, 80, 81, 82, 83, 84, 85, 86, 87, 88, 89, 90, 91, 92, 93, 94, 95, 96, 97, 98, 99, 100, 101, 102, 103, 104, 105, 106, 107, 108, 109, 110, 111, 112, 113, 114, 115, 116, 117, 118, 119, 120, 121, 122, 123, 124, 125, 126, 127, 128, 129, 130, 131, 132, 133, 134, 135, 136, 137, 138, 139, 140, 141, 142, 143, 144, 145, 146, 147, 148, 149, 150, 151, 152, 153, 154, 155, 156, 157, 158, 159, 160, 161, 162, 163, 164, 165, 166, 167, 168, 169, 170, 171, 172, 173, 174, 175, 176, 177, 178, 179, 180, 181, 182, 183, 184, 4]
  | 28, 3 => [7, 8, 9, 10]
  | 33, 5 => [20, 21, 22, 23, 24, 25, 26, 27, 28, 29, 6]
  | 34, 5 => [20, 21, 22, 23, 24, 25, 26, 27, 28, 29, 30, 31, 32, 33]
  | 42, 6 => [17, 18, 19, 20, 21, 22, 23, 24, 25, 26, 27, 28, 29, 30, 31, 32, 33, 34, 35, 36, 37, 38, 39, 40, 41]
  | 49, 4 => [9, 10, 11, 12, 13, 14, 15, 16, 17, 18, 19, 20]
  | 50, 3 => [6, 7, 8, 9, 10, 11, 12, 13, 14, 15, 16, 2]
  | 51, 3 => [5, 6, 7, 8, 9, 10, 11, 12, 13, 14, 15, 16, 17, 18, 19, 20, 21, 22, 23, 24, 2]
  | 52, 4 => [22, 23, 24, 25, 26, 27, 28, 29, 30, 4]
  | 53, 3 => [17, 18, 19, 20, 21, 22, 23, 24, 25, 4]
  | 54, 3 => [17, 18, 19, 20, 21, 22, 23, 24, 25, 26, 27, 28, 29, 30, 31, 32, 33, 34, 35, 36, 37, 38, 39, 40, 41, 42, 43, 44, 45, 46, 47, 48, 49, 50, 51, 52, 53, 54, 55, 56, 57, 58, 59, 60, 61, 62, 63, 64, 65, 66, 67, 68, 69, 70, 71, 72, 73, 74, 75, 76, 77, 78, 79, 80, 4]
  | 55, 3 => [18, 19, 20, 21, 22, 23, 24, 25, 26, 27, 28, 29, 30, 31, 32, 33, 34, 35, 36, 37, 4]
  | 56, 4 => [18, 19, 20, 21, 22, 23, 24, 25, 26, 27, 28, 29, 30, 31, 32, 33, 34, 35, 36, 37, 38, 39, 40, 41, 42, 43, 44, 45, 46, 4]
  | 57, 1 => [6, 7, 8, 9, 10, 11, 12, 13, 14, 15, 16, 17, 18, 19]
  | 61, 7 => [10, 11, 12, 13, 14, 15, 16, 17, 18, 19, 20]
  | 61, 8 => [21, 22, 23, 24, 25, 26, 27, 28, 29, 30, 31, 32, 33, 34, 35, 36, 37, 38, 39, 40, 41, 42]
  | 61, 9 => [43, 44, 45, 46, 47, 48, 49, 50, 51, 52]
  | 62, 5 => [44, 45, 46, 47, 48, 49, 50, 51, 52, 53, 54, 55, 56, 57, 58, 59, 60, 61, 62, 63, 64, 65]
  | 62, 7 => [69, 70, 71, 72, 73, 74, 75, 76, 77, 78, 79, 80, 81, 82, 83, 84, 85, 86, 87, 88, 89, 90]
  | 62, 8 => [91, 92, 93, 94, 95, 96, 97, 98, 99, 100]
  | 62, 12 => [109, 110, 111, 112, 113, 114, 115, 116, 117, 118, 119, 120, 121, 122, 108, 123, 124, 8]
  | 62, 13 => [125, 126, 127, 128, 129, 130, 131, 132]
  | 62, 15 => [135, 136, 137, 138, 139, 140, 141, 142, 143, 144, 145, 146, 147, 148, 149, 150]
  | 62, 24 => [177, 178, 179, 180, 181, 176, 182, 183, 12, 13]
  | 62, 36 => [222, 223, 224, 225, 226, 227, 228, 229, 230, 231, 232, 233, 234, 235, 236, 237, 238, 239, 240, 241, 242, 243]
  | 68, 0 => [3, 4, 5, 6, 7, 8]
  | 69, 1 => [6, 7, 8, 9, 10]
  | 69, 2 => [11, 12, 13, 14, 15, 16]
  | 74, 6 => [17, 18, 19, 20, 21, 22, 23, 24, 25]
  | 87, 6 => [16, 17, 18, 19, 20, 21, 22, 23, 24]
  | 88, 4 => [8, 9, 10, 11, 12, 13, 14]
  | 89, 1 => [3, 4, 5, 6, 7, 8, 9, 10, 11, 12, 13, 14, 15, 16, 2]
  | 94, 1 => [6, 7, 8, 9, 10, 11, 12, 13, 14, 15, 16, 17]
  | 98, 2 => [16, 17, 18, 19, 20, 21, 22, 23, 24, 25, 7, 8]
  | 100, 15 => [53, 54, 55, 56, 57, 58, 59, 60, 61]
  | 100, 25 => [72, 73, 74, 75, 76, 77, 78, 79, 80, 81, 82, 83]
  | 100, 28 => [87, 88, 89, 90, 91, 92, 93]
  | 100, 30 => [96, 97, 98, 99, 100, 101, 102, 103, 104, 105, 106]
  | 100, 33 => [112, 113, 114, 115, 116, 117, 118, 119, 120, 121, 122]
  | 100, 35 => [126, 127, 128, 129, 130, 131, 132, 133]
  | 100, 39 => [143, 144, 145, 146, 147, 148, 149]
  | 100, 41 => [152, 153, 154, 155, 156]
  | 103, 16 => [81, 82, 83, 84, 85, 86, 87, 88, 89, 90, 91, 92, 93, 8, 7]
  | 103, 19 => [107, 108, 109, 110, 111, 112, 113, 114, 115, 116, 117, 118, 119, 8, 7]
  | 106, 5 => [30, 31, 32, 33, 34, 35, 36, 37, 38, 39, 10, 11]
  | 106, 8 => [46, 47, 48, 49, 45, 50, 51, 13, 14]
  | 106, 10 => [53, 54, 55, 56, 57, 58, 59, 60, 61, 62]
  | 106, 13 => [69, 70, 71, 72, 73, 74, 75]
  | 106, 26 => [106, 107, 108, 109, 110, 111, 112]
  | 106, 27 => [113, 114, 115, 116, 117, 118, 119, 120]
  | 106, 29 => [126, 127, 128, 129, 130, 131, 132]
  | 108, 6 => [38, 39, 40, 41, 42, 43, 44, 45, 46, 47, 48, 49, 50, 51, 52, 8, 9]
  | 118, 11 => [22, 23, 24, 25, 26, 27, 28, 29, 30]
  | 120, 3 => [9, 10, 11, 12, 13, 14, 15, 16, 17, 18]
  | 121, 3 => [17, 18, 19, 20, 21, 22, 23, 24, 25, 26, 5, 6]
  | 124, 1 => [6, 7, 8, 9, 10, 11, 12, 13, 14, 15, 16, 17, 18, 19, 20, 21, 22, 23, 24]
  | 125, 2 => [18, 19, 20, 21, 22]
  | 126, 2 => [18, 19, 20, 21, 22]
  | 127, 3 => [33, 34, 35, 36, 37, 38, 39, 40, 41, 42, 43, 44, 45, 46, 47, 48, 49, 50, 51, 52, 53, 54, 55, 56, 57, 58, 59, 60, 61, 62, 63, 64, 65, 66, 67, 68, 69, 70, 71, 72, 73]
  | 127, 5 => [77, 78, 79, 80, 81, 82, 83, 84, 85, 86, 87, 88, 89, 90, 91, 76, 92, 93, 8, 9]
  | 127, 9 => [101, 102, 103, 104, 105, 106, 107, 108, 109, 110, 111, 12, 13]
  | 127, 11 => [116, 117, 118, 119, 120, 121, 122, 123, 124, 125, 126, 127, 128, 129, 130, 131, 132, 133, 134, 135, 136]
  | 127, 13 => [143, 144, 145, 146, 147, 148, 149, 150, 151, 152, 153, 154, 155, 156, 157, 158, 159, 142, 160, 161, 14, 15]
  | 127, 16 => [171, 172, 173, 174, 175, 176, 177, 178, 179, 180, 181, 182, 183, 184, 185, 186]
  | 128, 3 => [34, 35, 36, 37, 38, 39, 40, 41, 42, 43, 44, 45, 46, 47, 48, 49, 50, 51, 52, 53, 54, 55, 56, 57, 58, 59, 60, 61, 62]
  | 128, 5 => [65, 66, 67, 68, 69, 70, 71, 11]
  | 128, 8 => [75, 76, 77, 78, 79, 80, 81, 82, 83, 84, 85, 86, 87, 88, 89, 90, 91, 92, 93, 94, 95, 96]
  | 128, 9 => [97, 98, 99, 100, 101, 102, 103, 104, 105, 106, 107, 108, 109, 110]
  | 128, 11 => [122, 123, 124, 125, 126, 127, 128, 129, 130, 131, 132, 133, 134, 135, 136, 137, 138, 139, 140, 141, 142, 143, 144]
  | 129, 2 => [21, 22, 23, 24, 25, 26, 27, 28, 29, 30, 31, 32, 33, 34, 35, 36, 37, 38, 39, 40, 41, 42, 43, 44, 45, 46, 47, 48, 49, 50, 51]
  | 129, 7 => [61, 62, 63, 64, 65, 66, 67, 68, 69, 70, 71, 72, 73, 74, 75, 76, 77, 60, 78, 79, 10, 11]
  | 129, 9 => [86, 87, 88, 89, 90, 91, 92, 93, 94, 95, 96, 97, 85, 98, 99, 12, 13]
  | 129, 14 => [108, 109, 110, 111, 112, 113, 114, 115, 116, 117, 118, 119, 120, 121]
  | 129, 15 => [122, 123, 124, 125, 126]
  | 133, 1 => [5, 6, 7, 8, 9, 10, 11, 12, 13, 14, 15, 16, 17, 18, 19, 4]
  | 136, 16 => [117, 118, 119, 120, 121, 122, 123, 124, 125, 126, 127, 128, 15]
  | 136, 17 => [129, 130, 131, 132, 133, 134, 135, 136]
  | 148, 3 => [9, 10, 11, 12, 13, 14]
  | 150, 5 => [18, 19, 20, 21, 22, 23, 24, 25, 26, 27, 28]
  | 166, 8 => [34, 35, 36, 37, 38, 39, 40]
  | _, _ => []

def pneedfs : Nat → Nat → List Nat × List Nat := fun f id => match f, id with
  | 7, 9 => ([0, 1, 2, 3, 4, 5, 6, 7, 8], [7])
  | 10, 5 => ([0, 1, 2, 3, 4, 5, 6], [1])
  | 28, 3 => ([0, 1, 2], [1])
  | 57, 1 => ([0, 1, 2, 3, 4, 5, 6, 7], [4])
  | 61, 7 => ([0, 1, 2, 3, 4, 5, 6, 7], [0])
  | 61, 8 => ([0, 1, 2, 3, 4, 5, 6, 7, 8, 9, 10, 11, 12, 13, 14, 15, 16, 17, 18, 19], [0])
  | 61, 9 => ([0, 1, 2, 3], [0])
  | 62, 13 => ([0, 1, 2, 3, 4, 5, 6], [9])
  | 68, 0 => ([0, 1, 2, 3, 4], [0, 1])
  | 69, 1 => ([0, 1, 2, 3, 4], [1, 2])
  | 69, 2 => ([0, 1, 2, 3, 4, 5], [1, 2, 0])
  | 88, 4 => ([0, 1, 2, 3, 4, 5], [3])
  | 89, 1 => ([0, 6, 7, 8, 9, 10, 11], [0, 1])
  | 94, 1 => ([0, 1, 2, 3, 4, 5, 6], [4])
  | 100, 28 => ([0, 1, 2, 3, 4], [9])
  | 100, 39 => ([0, 1, 2, 3, 4, 5], [9])
  | 100, 41 => ([0, 1, 2, 3], [9])
  | 106, 10 => ([0, 1, 2, 3, 4, 5, 8], [8])
  | 106, 13 => ([0, 1, 2], [8])
  | 106, 27 => ([0, 1, 2, 3, 4, 6], [3])
  | 120, 3 => ([0, 1, 2, 3, 4, 5, 6, 7, 8], [1])
  | 124, 1 => ([0, 1, 2, 3, 4, 5, 6, 7, 8, 9, 10, 11, 12, 13, 14, 15, 16], [5])
  | 125, 2 => ([0, 1, 2], [5])
  | 126, 2 => ([0, 1, 2], [5])
  | 127, 3 => ([3, 4, 5, 6, 7, 8, 9, 10, 11, 12, 13, 14, 15, 16, 17, 21, 28, 29, 30, 31, 36], [6, 3])
  | 127, 5 => ([0, 1, 2, 3, 4, 5, 6, 7, 8, 9, 10, 11, 12, 13, 18], [3, 6])
  | 127, 9 => ([0, 1, 2, 3, 4, 5, 6, 7, 8, 9, 11, 12], [6, 10])
  | 127, 11 => ([0, 1, 2, 3, 4, 5, 6, 7, 8, 9, 10, 11, 12, 13, 14, 15, 16, 17, 18, 19], [3, 6])
  | 127, 13 => ([0, 1, 2, 3, 4, 5, 6, 7, 8, 9, 10, 11, 12, 13, 14, 15], [3, 6])
  | 127, 16 => ([0, 1, 2, 3, 4, 5, 6, 7, 8, 9, 10, 11, 12, 13, 14], [3, 6, 8])
  | 128, 3 => ([7, 8, 9, 10, 11, 12, 13, 14, 15, 16, 17, 18, 19, 20, 21, 22, 23, 24, 25, 26], [6, 3])
  | 128, 5 => ([0, 1, 2, 3, 4, 5], [8, 6])
  | 128, 8 => ([0, 1, 2, 3, 4, 5, 6, 7, 8, 9, 10, 11, 12, 13, 14, 15, 16, 17, 18, 19, 20], [3, 6, 8])
  | 128, 9 => ([0, 1, 2, 3, 4, 5, 6, 7, 8, 9, 10, 11, 12], [3, 6, 9])
  | 128, 11 => ([0, 1, 2, 3, 4, 5, 6, 7, 8, 9, 10, 11, 12, 13, 14, 15, 16, 17, 18, 19, 20, 21], [3])
  | 129, 2 => ([3, 9, 10, 11, 12, 13, 14, 15, 16, 17, 18, 19, 20, 21, 22, 23, 24, 25, 26, 27, 28], [6, 3])
  | 129, 7 => ([0, 1, 2, 3, 4, 5, 6, 7, 8, 9, 10, 11, 12, 13, 14, 15], [3, 6])
  | 129, 9 => ([0, 1, 2, 3, 4, 5, 6, 7, 8, 9, 10, 15], [3, 8])
  | 129, 14 => ([0, 1, 2, 3, 4, 5, 6, 7, 8, 9, 10, 11, 12], [3, 12, 6])
  | 129, 15 => ([0, 1, 2, 3], [3, 6])
  | 133, 1 => ([0, 1, 2, 3, 4, 5, 6, 7, 8, 10, 11, 13], [2])
  | 136, 16 => ([0, 1, 2, 3, 4, 5, 6, 7, 8, 9, 10], [14])
  | 136, 17 => ([0, 1, 2, 3, 5], [9])
  | 166, 8 => ([0, 1, 2, 3, 4, 5], [3])
  | _, _ => ([], [])

def ppol : Pol := { take := fun f t => (ptakes f).contains t, loc := fun f t => (plocs f).contains t, keep := pkeeps, arr := fun f _ => if parrs.contains f then 2 else 1, free := fun f => pfrees.contains f, orders := porders, need := pneeds, needF := pneedfs, wr := pwrs }
theorem ptake3 (t : Nat) : ppol.take 3 t = ([] : List Nat).contains t := rfl
theorem ploc3 (t : Nat) : ppol.loc 3 t = ([1, 5] : List Nat).contains t := rfl
theorem pkeep3 : ppol.keep 3 = none := rfl
theorem parr3 (t : Nat) : ppol.arr 3 t = 1 := rfl
theorem pfree3 : ppol.free 3 = false := rfl
theorem ptake4 (t : Nat) : ppol.take 4 t = ([] : List Nat).contains t := rfl
theorem ploc4 (t : Nat) : ppol.loc 4 t = ([] : List Nat).contains t := rfl
theorem pkeep4 : ppol.keep 4 = some [false, true, true, true, true, false, false, false, false, false, false, false, false, false, false, false, false, false, false, false, false, false, false, false, false, false, false, false, false, false, false, false, false, false, false, false, false, false, false, false] := rfl
theorem parr4 (t : Nat) : ppol.arr 4 t = 1 := rfl
theorem pfree4 : ppol.free 4 = true := rfl
theorem tycells2 : Tryz.prog.cellsOf 2 = 1 := by kernel_rfl
theorem tybytes2 : Tryz.prog.bytesOf 2 = 8 := by kernel_rfl
theorem tyzero2 : zeroA Tryz.prog 2 = some (.int .i64 (0)) := by kernel_rfl
theorem tyagg2 : aggT Tryz.prog 2 = false := by kernel_rfl
theorem tyval2 (cs : List AV) : valAt Tryz.prog 2 cs = cs.head? := valAt_one (by kernel_rfl) tyagg2 cs
theorem tycells3 : Tryz.prog.cellsOf 3 = 1 := by kernel_rfl
theorem tybytes3 : Tryz.prog.bytesOf 3 = 8 := by kernel_rfl
theorem tyzero3 : zeroA Tryz.prog 3 = some (.int .i64 (0)) := by kernel_rfl
theorem tyagg3 : aggT Tryz.prog 3 = false := by kernel_rfl
theorem tyval3 (cs : List AV) : valAt Tryz.prog 3 cs = cs.head? := valAt_one (by kernel_rfl) tyagg3 cs
theorem tycells4 : Tryz.prog.cellsOf 4 = 1 := by kernel_rfl
theorem tybytes4 : Tryz.prog.bytesOf 4 = 1 := by kernel_rfl
theorem tyzero4 : zeroA Tryz.prog 4 = some (.bool false) := by kernel_rfl
theorem tyagg4 : aggT Tryz.prog 4 = false := by kernel_rfl
theorem tyval4 (cs : List AV) : valAt Tryz.prog 4 cs = cs.head? := valAt_one (by kernel_rfl) tyagg4 cs
theorem tycells5 : Tryz.prog.cellsOf 5 = 1 := by kernel_rfl
theorem tybytes5 : Tryz.prog.bytesOf 5 = 1 := by kernel_rfl
theorem tyzero5 : zeroA Tryz.prog 5 = some (.int .u8 (0)) := by kernel_rfl
theorem tyagg5 : aggT Tryz.prog 5 = false := by kernel_rfl
theorem tyval5 (cs : List AV) : valAt Tryz.prog 5 cs = cs.head? := valAt_one (by kernel_rfl) tyagg5 cs
theorem tycells9 : Tryz.prog.cellsOf 9 = 1 := by kernel_rfl
theorem tybytes9 : Tryz.prog.bytesOf 9 = 16 := by kernel_rfl
theorem tyzero9 : zeroA Tryz.prog 9 = some (.str []) := by kernel_rfl
theorem tyagg9 : aggT Tryz.prog 9 = false := by kernel_rfl
theorem tyval9 (cs : List AV) : valAt Tryz.prog 9 cs = cs.head? := valAt_one (by kernel_rfl) tyagg9 cs
theorem tycells22 : Tryz.prog.cellsOf 22 = 1 := by kernel_rfl
theorem tybytes22 : Tryz.prog.bytesOf 22 = 24 := by kernel_rfl
theorem tyzero22 : zeroA Tryz.prog 22 = some (.nilsl) := by kernel_rfl
theorem tyagg22 : aggT Tryz.prog 22 = false := by kernel_rfl
theorem tyval22 (cs : List AV) : valAt Tryz.prog 22 cs = cs.head? := valAt_one (by kernel_rfl) tyagg22 cs
theorem tycells24 : Tryz.prog.cellsOf 24 = 4 := by kernel_rfl
theorem tybytes24 : Tryz.prog.bytesOf 24 = 48 := by kernel_rfl
theorem tyzero24 : zeroA Tryz.prog 24 = some (.agg [.int .i64 (0), .int .i64 (0), .int .i64 (0), .nilsl]) := by kernel_rfl
theorem tyagg24 : aggT Tryz.prog 24 = true := by kernel_rfl
theorem tyval24 (cs : List AV) : valAt Tryz.prog 24 cs = if 4 ≤ cs.length then some (.agg (cs.take 4)) else none := by rw [valAt_agg tyagg24, tycells24]
theorem tyfa24_0 (a : AV) : fieldAddrA Tryz.prog 24 a 0 = addOff a 0 := fieldAddrA_at (k := 0) (by kernel_rfl) a
theorem tysp24_0 : structPlaces Tryz.prog 24 0 = some (0, 1) := by kernel_rfl
theorem tyfd24_0 (cs : List AV) : fieldA Tryz.prog 24 (.agg cs) 0 = valAt Tryz.prog 3 (cs.drop 0) := fieldA_at (by kernel_rfl) cs
theorem tyfa24_1 (a : AV) : fieldAddrA Tryz.prog 24 a 1 = addOff a 1 := fieldAddrA_at (k := 0) (by kernel_rfl) a
theorem tysp24_1 : structPlaces Tryz.prog 24 1 = some (1, 1) := by kernel_rfl
theorem tyfd24_1 (cs : List AV) : fieldA Tryz.prog 24 (.agg cs) 1 = valAt Tryz.prog 3 (cs.drop 1) := fieldA_at (by kernel_rfl) cs
theorem tyfa24_2 (a : AV) : fieldAddrA Tryz.prog 24 a 2 = addOff a 2 := fieldAddrA_at (k := 0) (by kernel_rfl) a
theorem tysp24_2 : structPlaces Tryz.prog 24 2 = some (2, 1) := by kernel_rfl
theorem tyfd24_2 (cs : List AV) : fieldA Tryz.prog 24 (.agg cs) 2 = valAt Tryz.prog 3 (cs.drop 2) := fieldA_at (by kernel_rfl) cs
theorem tyfa24_3 (a : AV) : fieldAddrA Tryz.prog 24 a 3 = addOff a 3 := fieldAddrA_at (k := 0) (by kernel_rfl) a
theorem tysp24_3 : structPlaces Tryz.prog 24 3 = some (3, 1) := by kernel_rfl
theorem tyfd24_3 (cs : List AV) : fieldA Tryz.prog 24 (.agg cs) 3 = valAt Tryz.prog 22 (cs.drop 3) := fieldA_at (by kernel_rfl) cs
theorem tycells35 : Tryz.prog.cellsOf 35 = 1 := by kernel_rfl
theorem tybytes35 : Tryz.prog.bytesOf 35 = 8 := by kernel_rfl
theorem tyzero35 : zeroA Tryz.prog 35 = some (.int .i64 (0)) := by kernel_rfl
theorem tyagg35 : aggT Tryz.prog 35 = false := by kernel_rfl
theorem tyval35 (cs : List AV) : valAt Tryz.prog 35 cs = cs.head? := valAt_one (by kernel_rfl) tyagg35 cs
theorem tycells44 : Tryz.prog.cellsOf 44 = 2 := by kernel_rfl
theorem tybytes44 : Tryz.prog.bytesOf 44 = 16 := by kernel_rfl
theorem tyzero44 : zeroA Tryz.prog 44 = some (.agg [.int .i64 (0), .int .i64 (0)]) := by kernel_rfl
theorem tyagg44 : aggT Tryz.prog 44 = true := by kernel_rfl
theorem tyval44 (cs : List AV) : valAt Tryz.prog 44 cs = if 2 ≤ cs.length then some (.agg (cs.take 2)) else none := by rw [valAt_agg tyagg44, tycells44]
theorem tyfa44_0 (a : AV) : fieldAddrA Tryz.prog 44 a 0 = addOff a 0 := fieldAddrA_at (k := 0) (by kernel_rfl) a
theorem tysp44_0 : structPlaces Tryz.prog 44 0 = some (0, 1) := by kernel_rfl
theorem tyfd44_0 (cs : List AV) : fieldA Tryz.prog 44 (.agg cs) 0 = valAt Tryz.prog 3 (cs.drop 0) := fieldA_at (by kernel_rfl) cs
theorem tyfa44_1 (a : AV) : fieldAddrA Tryz.prog 44 a 1 = addOff a 1 := fieldAddrA_at (k := 0) (by kernel_rfl) a
theorem tysp44_1 : structPlaces Tryz.prog 44 1 = some (1, 1) := by kernel_rfl
theorem tyfd44_1 (cs : List AV) : fieldA Tryz.prog 44 (.agg cs) 1 = valAt Tryz.prog 3 (cs.drop 1) := fieldA_at (by kernel_rfl) cs
theorem pfrees0 (f : FuncId) : ppol.frees f = [] := (rfl)
theorem pfrz (f : FuncId) : ppol.frz f = false := (rfl)
theorem pfzr (f : FuncId) (id : Nat) : ppol.fzr f id = [] := (rfl)
theorem pout (f : FuncId) (id : Nat) : ppol.out f id = none := (rfl)
attribute [simp ↓] pfrees0 pfrz pfzr pout
attribute [simp] pfrees0 pfrz pfzr pout
attribute [simp] ptake3 ploc3 pkeep3 parr3 pfree3 ptake4 ploc4 pkeep4 parr4 pfree4 tycells2 tybytes2
attribute [simp] tyzero2 tyagg2 tyval2 tycells3 tybytes3 tyzero3 tyagg3 tyval3 tycells4 tybytes4 tyzero4 tyagg4
attribute [simp] tyval4 tycells5 tybytes5 tyzero5 tyagg5 tyval5 tycells9 tybytes9 tyzero9 tyagg9 tyval9 tycells22
attribute [simp] tybytes22 tyzero22 tyagg22 tyval22 tycells24 tybytes24 tyzero24 tyagg24 tyval24 tyfa24_0 tysp24_0 tyfd24_0
attribute [simp] tyfa24_1 tysp24_1 tyfd24_1 tyfa24_2 tysp24_2 tyfd24_2 tyfa24_3 tysp24_3 tyfd24_3 tycells35 tybytes35 tyzero35
attribute [simp] tyagg35 tyval35 tycells44 tybytes44 tyzero44 tyagg44 tyval44 tyfa44_0 tysp44_0 tyfd44_0 tyfa44_1 tysp44_1
attribute [simp] tyfd44_1
end Go.Ab.Seat
/- The calls that known() makes, one by one. -/
namespace Go.Ab.Seat
open Go.Proofs
set_option maxRecDepth 100000
def kn1 : Sto := { heap := [(8, .cells [.ptr 7 0]), (7, .cells [.int .i64 (1), .int .i64 (1), .ptr 1 0, .ptr 4 0, .ptr 5 0, .ptr 3 0, .ptr 6 0, .int .u32 (0), .int .u32 (0), .int .u32 (0), .int .u32 (0), .int .u32 (0), .int .u32 (0), .int .u32 (0), .int .u32 (0), .int .u32 (0), .int .u32 (0), .int .u32 (0), .int .u32 (0), .int .u32 (0), .bool true, .bool false, .bool false, .int .i64 (0), .bool false, .int .u32 (0), .int .u32 (0)]), (6, .cells [.nilsl, .nilsl, .int .i64 (0), .int .i64 (0), .bool true]), (5, .cells [.int .u32 (0), .int .u32 (0), .bool false, .bool false, .bool false, .bool false, .nilsl, .int .i64 (0), .nilsl, .bool true]), (4, .cells [.bool false, .int .u32 (0), .int .u32 (0), .bool false, .bool false, .int .u32 (0), .int .u32 (0), .bool false, .bool false, .int .u32 (0), .int .u32 (0), .bool false, .bool false, .int .u32 (0), .int .u32 (0), .bool false, .int .i64 (0), .bool true]), (3, .cells [.int .i64 (1), .map 2]), (2, .map []), (1, .cells [.rsl 0 1 0 64]), (0, .arr 1 [[.int .u8 (0)], [.int .u8 (0)], [.int .u8 (0)], [.int .u8 (0)], [.int .u8 (0)], [.int .u8 (0)], [.int .u8 (0)], [.int .u8 (0)], [.int .u8 (0)], [.int .u8 (0)], [.int .u8 (0)], [.int .u8 (0)], [.int .u8 (0)], [.int .u8 (0)], [.int .u8 (0)], [.int .u8 (0)], [.int .u8 (0)], [.int .u8 (0)], [.int .u8 (0)], [.int .u8 (0)], [.int .u8 (0)], [.int .u8 (0)], [.int .u8 (0)], [.int .u8 (0)], [.int .u8 (0)], [.int .u8 (0)], [.int .u8 (0)], [.int .u8 (0)], [.int .u8 (0)], [.int .u8 (0)], [.int .u8 (0)], [.int .u8 (0)], [.int .u8 (0)], [.int .u8 (0)], [.int .u8 (0)], [.int .u8 (0)], [.int .u8 (0)], [.int .u8 (0)], [.int .u8 (0)], [.int .u8 (0)], [.int .u8 (0)], [.int .u8 (0)], [.int .u8 (0)], [.int .u8 (0)], [.int .u8 (0)], [.int .u8 (0)], [.int .u8 (0)], [.int .u8 (0)], [.int .u8 (0)], [.int .u8 (0)], [.int .u8 (0)], [.int .u8 (0)], [.int .u8 (0)], [.int .u8 (0)], [.int .u8 (0)], [.int .u8 (0)], [.int .u8 (0)], [.int .u8 (0)], [.int .u8 (0)], [.int .u8 (0)], [.int .u8 (0)], [.int .u8 (0)], [.int .u8 (0)], [.int .u8 (0)]])], next := 9 }
theorem knc0 : (handler Tryz.prog ppol 199).call (.func 10) [.agg [.int .i64 (1), .int .i64 (1)]] { heap := [], next := 0 } = some (.ret (.tup [.ptr 8 0, .int .i64 (0)]), kn1) := by kernel_rfl
def kn2 : Sto := { heap := [(32, .map [(.int .i64 (1), .int .i64 (1)), (.int .i64 (4), .int .i64 (1))]), (31, .cells [.int .u32 (1)]), (30, .map [(.int .i64 (1), .int .i64 (1)), (.int .i64 (4), .int .i64 (1))]), (29, .cells [.int .u32 (0)]), (28, .map [(.int .i64 (1), .int .i64 (1)), (.int .i64 (4), .int .i64 (1))]), (27, .cells [.int .u32 (0)]), (26, .map [(.int .i64 (1), .int .i64 (1)), (.int .i64 (4), .int .i64 (1))]), (25, .cells [.int .u32 (0)]), (24, .map [(.int .i64 (1), .int .i64 (1)), (.int .i64 (4), .int .i64 (1))]), (23, .cells [.int .u32 (23)]), (22, .map [(.int .i64 (1), .int .i64 (1)), (.int .i64 (4), .int .i64 (1))]), (21, .cells [.int .u32 (16)]), (20, .map [(.int .i64 (1), .int .i64 (1)), (.int .i64 (4), .int .i64 (1))]), (19, .cells [.int .u32 (0)]), (18, .map [(.int .i64 (1), .int .i64 (1)), (.int .i64 (4), .int .i64 (1))]), (17, .cells [.int .u32 (1)]), (16, .map [(.int .i64 (1), .int .i64 (1)), (.int .i64 (4), .int .i64 (1))]), (15, .cells [.int .u32 (3)]), (14, .map [(.int .i64 (1), .int .i64 (1)), (.int .i64 (4), .int .i64 (1))]), (13, .cells [.int .u32 (16)]), (12, .map [(.int .i64 (1), .int .i64 (1)), (.int .i64 (4), .int .i64 (1))]), (11, .cells [.int .u32 (0)]), (10, .map [(.int .i64 (1), .int .i64 (1)), (.int .i64 (4), .int .i64 (1))]), (9, .cells [.int .u32 (65)]), (8, .cells [.ptr 7 0]), (7, .cells [.int .i64 (1), .int .i64 (1), .ptr 1 0, .ptr 4 0, .ptr 5 0, .ptr 3 0, .ptr 6 0, .int .u32 (0), .int .u32 (0), .int .u32 (0), .int .u32 (0), .int .u32 (0), .int .u32 (0), .int .u32 (0), .int .u32 (0), .int .u32 (0), .int .u32 (0), .int .u32 (0), .int .u32 (0), .int .u32 (0), .bool true, .bool false, .bool false, .int .i64 (0), .bool false, .int .u32 (0), .int .u32 (0)]), (6, .cells [.nilsl, .nilsl, .int .i64 (0), .int .i64 (0), .bool true]), (5, .cells [.int .u32 (0), .int .u32 (0), .bool false, .bool false, .bool false, .bool false, .nilsl, .int .i64 (0), .nilsl, .bool true]), (4, .cells [.bool false, .int .u32 (0), .int .u32 (0), .bool false, .bool false, .int .u32 (0), .int .u32 (0), .bool false, .bool false, .int .u32 (0), .int .u32 (0), .bool false, .bool false, .int .u32 (0), .int .u32 (0), .bool false, .int .i64 (0), .bool true]), (3, .cells [.int .i64 (1), .map 2]), (2, .map []), (1, .cells [.rsl 0 1 0 64]), (0, .arr 1 [[.int .u8 (65)], [.int .u8 (0)], [.int .u8 (16)], [.int .u8 (3)], [.int .u8 (1)], [.int .u8 (0)], [.int .u8 (16)], [.int .u8 (23)], [.int .u8 (0)], [.int .u8 (0)], [.int .u8 (0)], [.int .u8 (1)], [.int .u8 (0)], [.int .u8 (0)], [.int .u8 (0)], [.int .u8 (0)], [.int .u8 (0)], [.int .u8 (0)], [.int .u8 (0)], [.int .u8 (0)], [.int .u8 (0)], [.int .u8 (0)], [.int .u8 (0)], [.int .u8 (0)], [.int .u8 (0)], [.int .u8 (0)], [.int .u8 (0)], [.int .u8 (0)], [.int .u8 (0)], [.int .u8 (0)], [.int .u8 (0)], [.int .u8 (0)], [.int .u8 (0)], [.int .u8 (0)], [.int .u8 (0)], [.int .u8 (0)], [.int .u8 (0)], [.int .u8 (0)], [.int .u8 (0)], [.int .u8 (0)], [.int .u8 (0)], [.int .u8 (0)], [.int .u8 (0)], [.int .u8 (0)], [.int .u8 (0)], [.int .u8 (0)], [.int .u8 (0)], [.int .u8 (0)], [.int .u8 (0)], [.int .u8 (0)], [.int .u8 (0)], [.int .u8 (0)], [.int .u8 (0)], [.int .u8 (0)], [.int .u8 (0)], [.int .u8 (0)], [.int .u8 (0)], [.int .u8 (0)], [.int .u8 (0)], [.int .u8 (0)], [.int .u8 (0)], [.int .u8 (0)], [.int .u8 (0)], [.int .u8 (0)]])], next := 33 }
theorem knc1 : (handler Tryz.prog ppol 199).call (.func 6) [.ptr 8 0, .int .i64 (0), .sl true 1 [[.int .u8 (65)], [.int .u8 (0)], [.int .u8 (16)], [.int .u8 (3)], [.int .u8 (1)], [.int .u8 (0)], [.int .u8 (16)], [.int .u8 (23)], [.int .u8 (0)], [.int .u8 (0)], [.int .u8 (0)], [.int .u8 (1)]]] kn1 = some (.ret (.int .i64 (0)), kn2) := by kernel_rfl
def kn3 : Sto := { heap := [(61, .cells [.fn (.func 162) [] []]), (60, .cells [.fn (.func 160) [] []]), (59, .cells [.fn (.func 158) [] []]), (58, .cells [.fn (.func 157) [] []]), (57, .cells [.fn (.func 156) [] []]), (56, .cells [.fn (.func 155) [] []]), (55, .cells [.fn (.func 132) [] []]), (54, .cells [.fn (.func 140) [] []]), (53, .cells [.fn (.func 113) [] []]), (52, .map [(.int .i64 (2), .fn (.func 153) [] []), (.int .i64 (3), .fn (.func 154) [] []), (.int .i64 (4), .fn (.func 152) [] [.ptr 53 0]), (.int .i64 (5), .fn (.func 152) [] [.ptr 54 0]), (.int .i64 (6), .fn (.func 152) [] [.ptr 55 0]), (.int .i64 (7), .fn (.func 152) [] [.ptr 56 0]), (.int .i64 (8), .fn (.func 152) [] [.ptr 57 0]), (.int .i64 (9), .fn (.func 152) [] [.ptr 58 0]), (.int .i64 (10), .fn (.func 152) [] [.ptr 59 0]), (.int .i64 (11), .fn (.func 152) [] [.ptr 60 0]), (.int .i64 (12), .fn (.func 152) [] [.ptr 61 0])]), (51, .cells [.str [97, 100, 100, 105], .int .i64 (7)]), (50, .cells [.str [97, 100, 100, 105], .int .i64 (7)]), (46, .cells [.str [97, 100, 100, 105], .int .i64 (7)]), (45, .cells [.str [97, 100, 100, 105], .int .i64 (7)]), (44, .map [(.int .i64 (1), .int .i64 (1)), (.int .i64 (4), .int .i64 (1))]), (43, .cells [.int .u32 (51380289)]), (42, .cells [.ptr 33 0]), (39, .cells [.sl true 1 [[.fn (.func 89) [] [.ptr 37 0, .ptr 38 0]], [.fn (.func 90) [] [.ptr 37 0]], [.fn (.func 91) [] [.ptr 37 0]], [.fn (.func 92) [] [.ptr 37 0]]]]), (38, .cells [.int .i64 (0)]), (37, .cells [.ptr 5 0]), (36, .cells [.bool false]), (35, .cells [.int .i64 (0)]), (34, .cells [.ptr 5 0]), (33, .cells [.ptr 8 0, .int .i64 (3), .int .u32 (0), .int .u32 (51380289), .int .u32 (0), .sl true 3 [[.int .i64 (0), .int .i64 (0), .sl false 2 [[.int .i64 (7), .int .i64 (0)], [.int .i64 (8), .int .i64 (0)], [.int .i64 (9), .int .i64 (0)], [.int .i64 (2), .int .i64 (0)]]], [.int .i64 (0), .int .i64 (0), .sl false 2 [[.int .i64 (10), .int .i64 (0)], [.int .i64 (10), .int .i64 (1)], [.int .i64 (10), .int .i64 (2)], [.int .i64 (10), .int .i64 (3)]]], [.int .i64 (1), .int .i64 (1), .sl false 2 [[.int .i64 (1), .int .i64 (0)]]], [.int .i64 (2), .int .i64 (0), .sl false 2 [[.int .i64 (2), .int .i64 (0)]]]]]), (32, .map [(.int .i64 (1), .int .i64 (1)), (.int .i64 (4), .int .i64 (1))]), (31, .cells [.int .u32 (1)]), (30, .map [(.int .i64 (1), .int .i64 (1)), (.int .i64 (4), .int .i64 (1))]), (29, .cells [.int .u32 (0)]), (28, .map [(.int .i64 (1), .int .i64 (1)), (.int .i64 (4), .int .i64 (1))]), (27, .cells [.int .u32 (0)]), (26, .map [(.int .i64 (1), .int .i64 (1)), (.int .i64 (4), .int .i64 (1))]), (25, .cells [.int .u32 (0)]), (24, .map [(.int .i64 (1), .int .i64 (1)), (.int .i64 (4), .int .i64 (1))]), (23, .cells [.int .u32 (23)]), (22, .map [(.int .i64 (1), .int .i64 (1)), (.int .i64 (4), .int .i64 (1))]), (21, .cells [.int .u32 (16)]), (20, .map [(.int .i64 (1), .int .i64 (1)), (.int .i64 (4), .int .i64 (1))]), (19, .cells [.int .u32 (0)]), (18, .map [(.int .i64 (1), .int .i64 (1)), (.int .i64 (4), .int .i64 (1))]), (17, .cells [.int .u32 (1)]), (16, .map [(.int .i64 (1), .int .i64 (1)), (.int .i64 (4), .int .i64 (1))]), (15, .cells [.int .u32 (3)]), (14, .map [(.int .i64 (1), .int .i64 (1)), (.int .i64 (4), .int .i64 (1))]), (13, .cells [.int .u32 (16)]), (12, .map [(.int .i64 (1), .int .i64 (1)), (.int .i64 (4), .int .i64 (1))]), (11, .cells [.int .u32 (0)]), (10, .map [(.int .i64 (1), .int .i64 (1)), (.int .i64 (4), .int .i64 (1))]), (9, .cells [.int .u32 (65)]), (8, .cells [.ptr 7 0]), (7, .cells [.int .i64 (1), .int .i64 (1), .ptr 1 0, .ptr 4 0, .ptr 5 0, .ptr 3 0, .ptr 6 0, .int .u32 (0), .int .u32 (65), .int .u32 (0), .int .u32 (0), .int .u32 (0), .int .u32 (0), .int .u32 (0), .int .u32 (0), .int .u32 (4), .int .u32 (0), .int .u32 (0), .int .u32 (0), .int .u32 (0), .bool true, .bool false, .bool false, .int .i64 (1), .bool false, .int .u32 (0), .int .u32 (0)]), (6, .cells [.nilsl, .nilsl, .int .i64 (0), .int .i64 (0), .bool true]), (5, .cells [.int .u32 (0), .int .u32 (0), .bool false, .bool false, .bool false, .bool false, .nilsl, .int .i64 (0), .nilsl, .bool true]), (4, .cells [.bool false, .int .u32 (0), .int .u32 (0), .bool false, .bool false, .int .u32 (0), .int .u32 (0), .bool false, .bool false, .int .u32 (0), .int .u32 (0), .bool false, .bool false, .int .u32 (0), .int .u32 (0), .bool false, .int .i64 (0), .bool true]), (3, .cells [.int .i64 (1), .map 2]), (2, .map []), (1, .cells [.rsl 0 1 0 64]), (0, .arr 1 [[.int .u8 (65)], [.int .u8 (0)], [.int .u8 (16)], [.int .u8 (3)], [.int .u8 (1)], [.int .u8 (0)], [.int .u8 (16)], [.int .u8 (23)], [.int .u8 (0)], [.int .u8 (0)], [.int .u8 (0)], [.int .u8 (1)], [.int .u8 (0)], [.int .u8 (0)], [.int .u8 (0)], [.int .u8 (0)], [.int .u8 (0)], [.int .u8 (0)], [.int .u8 (0)], [.int .u8 (0)], [.int .u8 (0)], [.int .u8 (0)], [.int .u8 (0)], [.int .u8 (0)], [.int .u8 (0)], [.int .u8 (0)], [.int .u8 (0)], [.int .u8 (0)], [.int .u8 (0)], [.int .u8 (0)], [.int .u8 (0)], [.int .u8 (0)], [.int .u8 (0)], [.int .u8 (0)], [.int .u8 (0)], [.int .u8 (0)], [.int .u8 (0)], [.int .u8 (0)], [.int .u8 (0)], [.int .u8 (0)], [.int .u8 (0)], [.int .u8 (0)], [.int .u8 (0)], [.int .u8 (0)], [.int .u8 (0)], [.int .u8 (0)], [.int .u8 (0)], [.int .u8 (0)], [.int .u8 (0)], [.int .u8 (0)], [.int .u8 (0)], [.int .u8 (0)], [.int .u8 (0)], [.int .u8 (0)], [.int .u8 (0)], [.int .u8 (0)], [.int .u8 (0)], [.int .u8 (0)], [.int .u8 (0)], [.int .u8 (0)], [.int .u8 (0)], [.int .u8 (0)], [.int .u8 (0)], [.int .u8 (0)]])], next := 62 }
theorem knc2 : (handler Tryz.prog ppol 199).call (.func 5) [.ptr 8 0] kn2 = some (.ret (.tup [.agg [.int .i64 (3), .int .u32 (0), .int .u32 (51380289), .int .u32 (0), .sl false 3 [[.int .i64 (0), .int .i64 (0), .sl false 2 [[.int .i64 (7), .int .i64 (0)], [.int .i64 (8), .int .i64 (0)], [.int .i64 (9), .int .i64 (0)], [.int .i64 (2), .int .i64 (0)]]], [.int .i64 (0), .int .i64 (0), .sl false 2 [[.int .i64 (10), .int .i64 (0)], [.int .i64 (10), .int .i64 (1)], [.int .i64 (10), .int .i64 (2)], [.int .i64 (10), .int .i64 (3)]]], [.int .i64 (1), .int .i64 (1), .sl false 2 [[.int .i64 (1), .int .i64 (0)]]], [.int .i64 (2), .int .i64 (0), .sl false 2 [[.int .i64 (2), .int .i64 (0)]]]]], .int .i64 (0)]), kn3) := by kernel_rfl
def kn4 : Sto := { heap := [(91, .cells [.fn (.func 162) [] []]), (90, .cells [.fn (.func 160) [] []]), (89, .cells [.fn (.func 158) [] []]), (88, .cells [.fn (.func 157) [] []]), (87, .cells [.fn (.func 156) [] []]), (86, .cells [.fn (.func 155) [] []]), (85, .cells [.fn (.func 132) [] []]), (84, .cells [.fn (.func 140) [] []]), (83, .cells [.fn (.func 113) [] []]), (82, .map [(.int .i64 (2), .fn (.func 153) [] []), (.int .i64 (3), .fn (.func 154) [] []), (.int .i64 (4), .fn (.func 152) [] [.ptr 83 0]), (.int .i64 (5), .fn (.func 152) [] [.ptr 84 0]), (.int .i64 (6), .fn (.func 152) [] [.ptr 85 0]), (.int .i64 (7), .fn (.func 152) [] [.ptr 86 0]), (.int .i64 (8), .fn (.func 152) [] [.ptr 87 0]), (.int .i64 (9), .fn (.func 152) [] [.ptr 88 0]), (.int .i64 (10), .fn (.func 152) [] [.ptr 89 0]), (.int .i64 (11), .fn (.func 152) [] [.ptr 90 0]), (.int .i64 (12), .fn (.func 152) [] [.ptr 91 0])]), (81, .cells [.str [111, 117, 116], .int .i64 (5)]), (80, .cells [.str [111, 117, 116], .int .i64 (5)]), (79, .map [(.int .i64 (1), .fn (.func 124) [.ptr 62 0] []), (.int .i64 (3), .fn (.func 125) [.ptr 62 0] []), (.int .i64 (4), .fn (.func 126) [.ptr 62 0] []), (.int .i64 (5), .fn (.func 127) [.ptr 62 0] []), (.int .i64 (7), .fn (.func 128) [.ptr 62 0] []), (.int .i64 (9), .fn (.func 129) [.ptr 62 0] [])]), (75, .cells [.str [111, 117, 116], .int .i64 (5)]), (74, .cells [.str [111, 117, 116], .int .i64 (5)]), (73, .map [(.int .i64 (1), .int .i64 (1)), (.int .i64 (4), .int .i64 (1))]), (72, .cells [.int .u32 (386924545)]), (71, .cells [.ptr 62 0]), (68, .cells [.sl true 1 [[.fn (.func 89) [] [.ptr 66 0, .ptr 67 0]], [.fn (.func 90) [] [.ptr 66 0]], [.fn (.func 91) [] [.ptr 66 0]], [.fn (.func 92) [] [.ptr 66 0]]]]), (67, .cells [.int .i64 (1)]), (66, .cells [.ptr 5 0]), (65, .cells [.bool false]), (64, .cells [.int .i64 (0)]), (63, .cells [.ptr 5 0]), (62, .cells [.ptr 8 0, .int .i64 (3), .int .u32 (4), .int .u32 (386924545), .int .u32 (0), .sl true 3 [[.int .i64 (0), .int .i64 (0), .sl false 2 [[.int .i64 (7), .int .i64 (0)], [.int .i64 (8), .int .i64 (0)], [.int .i64 (9), .int .i64 (0)], [.int .i64 (2), .int .i64 (0)]]], [.int .i64 (0), .int .i64 (0), .sl false 2 [[.int .i64 (10), .int .i64 (4)], [.int .i64 (10), .int .i64 (5)], [.int .i64 (10), .int .i64 (6)], [.int .i64 (10), .int .i64 (7)]]], [.int .i64 (2), .int .i64 (0), .sl false 2 [[.int .i64 (2), .int .i64 (0)]]], [.int .i64 (14), .int .i64 (0), .sl false 2 [[.int .i64 (1), .int .i64 (1)]]]]]), (61, .cells [.fn (.func 162) [] []]), (60, .cells [.fn (.func 160) [] []]), (59, .cells [.fn (.func 158) [] []]), (58, .cells [.fn (.func 157) [] []]), (57, .cells [.fn (.func 156) [] []]), (56, .cells [.fn (.func 155) [] []]), (55, .cells [.fn (.func 132) [] []]), (54, .cells [.fn (.func 140) [] []]), (53, .cells [.fn (.func 113) [] []]), (52, .map [(.int .i64 (2), .fn (.func 153) [] []), (.int .i64 (3), .fn (.func 154) [] []), (.int .i64 (4), .fn (.func 152) [] [.ptr 53 0]), (.int .i64 (5), .fn (.func 152) [] [.ptr 54 0]), (.int .i64 (6), .fn (.func 152) [] [.ptr 55 0]), (.int .i64 (7), .fn (.func 152) [] [.ptr 56 0]), (.int .i64 (8), .fn (.func 152) [] [.ptr 57 0]), (.int .i64 (9), .fn (.func 152) [] [.ptr 58 0]), (.int .i64 (10), .fn (.func 152) [] [.ptr 59 0]), (.int .i64 (11), .fn (.func 152) [] [.ptr 60 0]), (.int .i64 (12), .fn (.func 152) [] [.ptr 61 0])]), (51, .cells [.str [97, 100, 100, 105], .int .i64 (7)]), (50, .cells [.str [97, 100, 100, 105], .int .i64 (7)]), (46, .cells [.str [97, 100, 100, 105], .int .i64 (7)]), (45, .cells [.str [97, 100, 100, 105], .int .i64 (7)]), (44, .map [(.int .i64 (1), .int .i64 (1)), (.int .i64 (4), .int .i64 (1))]), (43, .cells [.int .u32 (51380289)]), (42, .cells [.ptr 33 0]), (39, .cells [.sl true 1 [[.fn (.func 89) [] [.ptr 37 0, .ptr 38 0]], [.fn (.func 90) [] [.ptr 37 0]], [.fn (.func 91) [] [.ptr 37 0]], [.fn (.func 92) [] [.ptr 37 0]]]]), (38, .cells [.int .i64 (0)]), (37, .cells [.ptr 5 0]), (36, .cells [.bool false]), (35, .cells [.int .i64 (0)]), (34, .cells [.ptr 5 0]), (33, .cells [.ptr 8 0, .int .i64 (3), .int .u32 (0), .int .u32 (51380289), .int .u32 (0), .sl true 3 [[.int .i64 (0), .int .i64 (0), .sl false 2 [[.int .i64 (7), .int .i64 (0)], [.int .i64 (8), .int .i64 (0)], [.int .i64 (9), .int .i64 (0)], [.int .i64 (2), .int .i64 (0)]]], [.int .i64 (0), .int .i64 (0), .sl false 2 [[.int .i64 (10), .int .i64 (0)], [.int .i64 (10), .int .i64 (1)], [.int .i64 (10), .int .i64 (2)], [.int .i64 (10), .int .i64 (3)]]], [.int .i64 (1), .int .i64 (1), .sl false 2 [[.int .i64 (1), .int .i64 (0)]]], [.int .i64 (2), .int .i64 (0), .sl false 2 [[.int .i64 (2), .int .i64 (0)]]]]]), (32, .map [(.int .i64 (1), .int .i64 (1)), (.int .i64 (4), .int .i64 (1))]), (31, .cells [.int .u32 (1)]), (30, .map [(.int .i64 (1), .int .i64 (1)), (.int .i64 (4), .int .i64 (1))]), (29, .cells [.int .u32 (0)]), (28, .map [(.int .i64 (1), .int .i64 (1)), (.int .i64 (4), .int .i64 (1))]), (27, .cells [.int .u32 (0)]), (26, .map [(.int .i64 (1), .int .i64 (1)), (.int .i64 (4), .int .i64 (1))]), (25, .cells [.int .u32 (0)]), (24, .map [(.int .i64 (1), .int .i64 (1)), (.int .i64 (4), .int .i64 (1))]), (23, .cells [.int .u32 (23)]), (22, .map [(.int .i64 (1), .int .i64 (1)), (.int .i64 (4), .int .i64 (1))]), (21, .cells [.int .u32 (16)]), (20, .map [(.int .i64 (1), .int .i64 (1)), (.int .i64 (4), .int .i64 (1))]), (19, .cells [.int .u32 (0)]), (18, .map [(.int .i64 (1), .int .i64 (1)), (.int .i64 (4), .int .i64 (1))]), (17, .cells [.int .u32 (1)]), (16, .map [(.int .i64 (1), .int .i64 (1)), (.int .i64 (4), .int .i64 (1))]), (15, .cells [.int .u32 (3)]), (14, .map [(.int .i64 (1), .int .i64 (1)), (.int .i64 (4), .int .i64 (1))]), (13, .cells [.int .u32 (16)]), (12, .map [(.int .i64 (1), .int .i64 (1)), (.int .i64 (4), .int .i64 (1))]), (11, .cells [.int .u32 (0)]), (10, .map [(.int .i64 (1), .int .i64 (1)), (.int .i64 (4), .int .i64 (1))]), (9, .cells [.int .u32 (65)]), (8, .cells [.ptr 7 0]), (7, .cells [.int .i64 (1), .int .i64 (1), .ptr 1 0, .ptr 4 0, .ptr 5 0, .ptr 3 0, .ptr 6 0, .int .u32 (0), .int .u32 (65), .int .u32 (0), .int .u32 (0), .int .u32 (0), .int .u32 (0), .int .u32 (0), .int .u32 (0), .int .u32 (8), .int .u32 (0), .int .u32 (0), .int .u32 (0), .int .u32 (0), .bool true, .bool false, .bool false, .int .i64 (2), .bool false, .int .u32 (0), .int .u32 (0)]), (6, .cells [.nilsl, .nilsl, .int .i64 (0), .int .i64 (0), .bool true]), (5, .cells [.int .u32 (0), .int .u32 (0), .bool false, .bool false, .bool false, .bool false, .nilsl, .int .i64 (0), .sl true 1 [[.int .u8 (65)]], .bool true]), (4, .cells [.bool false, .int .u32 (0), .int .u32 (0), .bool false, .bool false, .int .u32 (0), .int .u32 (0), .bool false, .bool false, .int .u32 (0), .int .u32 (0), .bool false, .bool false, .int .u32 (0), .int .u32 (0), .bool false, .int .i64 (0), .bool true]), (3, .cells [.int .i64 (1), .map 2]), (2, .map []), (1, .cells [.rsl 0 1 0 64]), (0, .arr 1 [[.int .u8 (65)], [.int .u8 (0)], [.int .u8 (16)], [.int .u8 (3)], [.int .u8 (1)], [.int .u8 (0)], [.int .u8 (16)], [.int .u8 (23)], [.int .u8 (0)], [.int .u8 (0)], [.int .u8 (0)], [.int .u8 (1)], [.int .u8 (0)], [.int .u8 (0)], [.int .u8 (0)], [.int .u8 (0)], [.int .u8 (0)], [.int .u8 (0)], [.int .u8 (0)], [.int .u8 (0)], [.int .u8 (0)], [.int .u8 (0)], [.int .u8 (0)], [.int .u8 (0)], [.int .u8 (0)], [.int .u8 (0)], [.int .u8 (0)], [.int .u8 (0)], [.int .u8 (0)], [.int .u8 (0)], [.int .u8 (0)], [.int .u8 (0)], [.int .u8 (0)], [.int .u8 (0)], [.int .u8 (0)], [.int .u8 (0)], [.int .u8 (0)], [.int .u8 (0)], [.int .u8 (0)], [.int .u8 (0)], [.int .u8 (0)], [.int .u8 (0)], [.int .u8 (0)], [.int .u8 (0)], [.int .u8 (0)], [.int .u8 (0)], [.int .u8 (0)], [.int .u8 (0)], [.int .u8 (0)], [.int .u8 (0)], [.int .u8 (0)], [.int .u8 (0)], [.int .u8 (0)], [.int .u8 (0)], [.int .u8 (0)], [.int .u8 (0)], [.int .u8 (0)], [.int .u8 (0)], [.int .u8 (0)], [.int .u8 (0)], [.int .u8 (0)], [.int .u8 (0)], [.int .u8 (0)], [.int .u8 (0)]])], next := 92 }
theorem knc3 : (handler Tryz.prog ppol 199).call (.func 5) [.ptr 8 0] kn3 = some (.ret (.tup [.agg [.int .i64 (3), .int .u32 (4), .int .u32 (386924545), .int .u32 (0), .sl false 3 [[.int .i64 (0), .int .i64 (0), .sl false 2 [[.int .i64 (7), .int .i64 (0)], [.int .i64 (8), .int .i64 (0)], [.int .i64 (9), .int .i64 (0)], [.int .i64 (2), .int .i64 (0)]]], [.int .i64 (0), .int .i64 (0), .sl false 2 [[.int .i64 (10), .int .i64 (4)], [.int .i64 (10), .int .i64 (5)], [.int .i64 (10), .int .i64 (6)], [.int .i64 (10), .int .i64 (7)]]], [.int .i64 (2), .int .i64 (0), .sl false 2 [[.int .i64 (2), .int .i64 (0)]]], [.int .i64 (14), .int .i64 (0), .sl false 2 [[.int .i64 (1), .int .i64 (1)]]]]], .int .i64 (0)]), kn4) := by kernel_rfl
def kn5 : Sto := { heap := [(120, .cells [.fn (.func 162) [] []]), (119, .cells [.fn (.func 160) [] []]), (118, .cells [.fn (.func 158) [] []]), (117, .cells [.fn (.func 157) [] []]), (116, .cells [.fn (.func 156) [] []]), (115, .cells [.fn (.func 155) [] []]), (114, .cells [.fn (.func 132) [] []]), (113, .cells [.fn (.func 140) [] []]), (112, .cells [.fn (.func 113) [] []]), (111, .map [(.int .i64 (2), .fn (.func 153) [] []), (.int .i64 (3), .fn (.func 154) [] []), (.int .i64 (4), .fn (.func 152) [] [.ptr 112 0]), (.int .i64 (5), .fn (.func 152) [] [.ptr 113 0]), (.int .i64 (6), .fn (.func 152) [] [.ptr 114 0]), (.int .i64 (7), .fn (.func 152) [] [.ptr 115 0]), (.int .i64 (8), .fn (.func 152) [] [.ptr 116 0]), (.int .i64 (9), .fn (.func 152) [] [.ptr 117 0]), (.int .i64 (10), .fn (.func 152) [] [.ptr 118 0]), (.int .i64 (11), .fn (.func 152) [] [.ptr 119 0]), (.int .i64 (12), .fn (.func 152) [] [.ptr 120 0])]), (110, .cells [.str [104, 97, 108, 116], .int .i64 (0)]), (109, .cells [.str [104, 97, 108, 116], .int .i64 (0)]), (105, .cells [.str [104, 97, 108, 116], .int .i64 (0)]), (104, .cells [.str [104, 97, 108, 116], .int .i64 (0)]), (103, .map [(.int .i64 (1), .int .i64 (1)), (.int .i64 (4), .int .i64 (1))]), (102, .cells [.int .u32 (16777216)]), (101, .cells [.ptr 92 0]), (98, .cells [.sl true 1 [[.fn (.func 89) [] [.ptr 96 0, .ptr 97 0]], [.fn (.func 90) [] [.ptr 96 0]], [.fn (.func 91) [] [.ptr 96 0]], [.fn (.func 92) [] [.ptr 96 0]]]]), (97, .cells [.int .i64 (2)]), (96, .cells [.ptr 5 0]), (95, .cells [.bool false]), (94, .cells [.int .i64 (0)]), (93, .cells [.ptr 5 0]), (92, .cells [.ptr 8 0, .int .i64 (3), .int .u32 (8), .int .u32 (16777216), .int .u32 (0), .sl true 3 [[.int .i64 (0), .int .i64 (0), .sl false 2 [[.int .i64 (7), .int .i64 (0)], [.int .i64 (8), .int .i64 (0)], [.int .i64 (9), .int .i64 (0)], [.int .i64 (2), .int .i64 (0)]]], [.int .i64 (0), .int .i64 (0), .sl false 2 [[.int .i64 (10), .int .i64 (8)], [.int .i64 (10), .int .i64 (9)], [.int .i64 (10), .int .i64 (10)], [.int .i64 (10), .int .i64 (11)]]], [.int .i64 (2), .int .i64 (0), .sl false 2 [[.int .i64 (2), .int .i64 (0)]]]]]), (91, .cells [.fn (.func 162) [] []]), (90, .cells [.fn (.func 160) [] []]), (89, .cells [.fn (.func 158) [] []]), (88, .cells [.fn (.func 157) [] []]), (87, .cells [.fn (.func 156) [] []]), (86, .cells [.fn (.func 155) [] []]), (85, .cells [.fn (.func 132) [] []]), (84, .cells [.fn (.func 140) [] []]), (83, .cells [.fn (.func 113) [] []]), (82, .map [(.int .i64 (2), .fn (.func 153) [] []), (.int .i64 (3), .fn (.func 154) [] []), (.int .i64 (4), .fn (.func 152) [] [.ptr 83 0]), (.int .i64 (5), .fn (.func 152) [] [.ptr 84 0]), (.int .i64 (6), .fn (.func 152) [] [.ptr 85 0]), (.int .i64 (7), .fn (.func 152) [] [.ptr 86 0]), (.int .i64 (8), .fn (.func 152) [] [.ptr 87 0]), (.int .i64 (9), .fn (.func 152) [] [.ptr 88 0]), (.int .i64 (10), .fn (.func 152) [] [.ptr 89 0]), (.int .i64 (11), .fn (.func 152) [] [.ptr 90 0]), (.int .i64 (12), .fn (.func 152) [] [.ptr 91 0])]), (81, .cells [.str [111, 117, 116], .int .i64 (5)]), (80, .cells [.str [111, 117, 116], .int .i64 (5)]), (79, .map [(.int .i64 (1), .fn (.func 124) [.ptr 62 0] []), (.int .i64 (3), .fn (.func 125) [.ptr 62 0] []), (.int .i64 (4), .fn (.func 126) [.ptr 62 0] []), (.int .i64 (5), .fn (.func 127) [.ptr 62 0] []), (.int .i64 (7), .fn (.func 128) [.ptr 62 0] []), (.int .i64 (9), .fn (.func 129) [.ptr 62 0] [])]), (75, .cells [.str [111, 117, 116], .int .i64 (5)]), (74, .cells [.str [111, 117, 116], .int .i64 (5)]), (73, .map [(.int .i64 (1), .int .i64 (1)), (.int .i64 (4), .int .i64 (1))]), (72, .cells [.int .u32 (386924545)]), (71, .cells [.ptr 62 0]), (68, .cells [.sl true 1 [[.fn (.func 89) [] [.ptr 66 0, .ptr 67 0]], [.fn (.func 90) [] [.ptr 66 0]], [.fn (.func 91) [] [.ptr 66 0]], [.fn (.func 92) [] [.ptr 66 0]]]]), (67, .cells [.int .i64 (1)]), (66, .cells [.ptr 5 0]), (65, .cells [.bool false]), (64, .cells [.int .i64 (0)]), (63, .cells [.ptr 5 0]), (62, .cells [.ptr 8 0, .int .i64 (3), .int .u32 (4), .int .u32 (386924545), .int .u32 (0), .sl true 3 [[.int .i64 (0), .int .i64 (0), .sl false 2 [[.int .i64 (7), .int .i64 (0)], [.int .i64 (8), .int .i64 (0)], [.int .i64 (9), .int .i64 (0)], [.int .i64 (2), .int .i64 (0)]]], [.int .i64 (0), .int .i64 (0), .sl false 2 [[.int .i64 (10), .int .i64 (4)], [.int .i64 (10), .int .i64 (5)], [.int .i64 (10), .int .i64 (6)], [.int .i64 (10), .int .i64 (7)]]], [.int .i64 (2), .int .i64 (0), .sl false 2 [[.int .i64 (2), .int .i64 (0)]]], [.int .i64 (14), .int .i64 (0), .sl false 2 [[.int .i64 (1), .int .i64 (1)]]]]]), (61, .cells [.fn (.func 162) [] []]), (60, .cells [.fn (.func 160) [] []]), (59, .cells [.fn (.func 158) [] []]), (58, .cells [.fn (.func 157) [] []]), (57, .cells [.fn (.func 156) [] []]), (56, .cells [.fn (.func 155) [] []]), (55, .cells [.fn (.func 132) [] []]), (54, .cells [.fn (.func 140) [] []]), (53, .cells [.fn (.func 113) [] []]), (52, .map [(.int .i64 (2), .fn (.func 153) [] []), (.int .i64 (3), .fn (.func 154) [] []), (.int .i64 (4), .fn (.func 152) [] [.ptr 53 0]), (.int .i64 (5), .fn (.func 152) [] [.ptr 54 0]), (.int .i64 (6), .fn (.func 152) [] [.ptr 55 0]), (.int .i64 (7), .fn (.func 152) [] [.ptr 56 0]), (.int .i64 (8), .fn (.func 152) [] [.ptr 57 0]), (.int .i64 (9), .fn (.func 152) [] [.ptr 58 0]), (.int .i64 (10), .fn (.func 152) [] [.ptr 59 0]), (.int .i64 (11), .fn (.func 152) [] [.ptr 60 0]), (.int .i64 (12), .fn (.func 152) [] [.ptr 61 0])]), (51, .cells [.str [97, 100, 100, 105], .int .i64 (7)]), (50, .cells [.str [97, 100, 100, 105], .int .i64 (7)]), (46, .cells [.str [97, 100, 100, 105], .int .i64 (7)]), (45, .cells [.str [97, 100, 100, 105], .int .i64 (7)]), (44, .map [(.int .i64 (1), .int .i64 (1)), (.int .i64 (4), .int .i64 (1))]), (43, .cells [.int .u32 (51380289)]), (42, .cells [.ptr 33 0]), (39, .cells [.sl true 1 [[.fn (.func 89) [] [.ptr 37 0, .ptr 38 0]], [.fn (.func 90) [] [.ptr 37 0]], [.fn (.func 91) [] [.ptr 37 0]], [.fn (.func 92) [] [.ptr 37 0]]]]), (38, .cells [.int .i64 (0)]), (37, .cells [.ptr 5 0]), (36, .cells [.bool false]), (35, .cells [.int .i64 (0)]), (34, .cells [.ptr 5 0]), (33, .cells [.ptr 8 0, .int .i64 (3), .int .u32 (0), .int .u32 (51380289), .int .u32 (0), .sl true 3 [[.int .i64 (0), .int .i64 (0), .sl false 2 [[.int .i64 (7), .int .i64 (0)], [.int .i64 (8), .int .i64 (0)], [.int .i64 (9), .int .i64 (0)], [.int .i64 (2), .int .i64 (0)]]], [.int .i64 (0), .int .i64 (0), .sl false 2 [[.int .i64 (10), .int .i64 (0)], [.int .i64 (10), .int .i64 (1)], [.int .i64 (10), .int .i64 (2)], [.int .i64 (10), .int .i64 (3)]]], [.int .i64 (1), .int .i64 (1), .sl false 2 [[.int .i64 (1), .int .i64 (0)]]], [.int .i64 (2), .int .i64 (0), .sl false 2 [[.int .i64 (2), .int .i64 (0)]]]]]), (32, .map [(.int .i64 (1), .int .i64 (1)), (.int .i64 (4), .int .i64 (1))]), (31, .cells [.int .u32 (1)]), (30, .map [(.int .i64 (1), .int .i64 (1)), (.int .i64 (4), .int .i64 (1))]), (29, .cells [.int .u32 (0)]), (28, .map [(.int .i64 (1), .int .i64 (1)), (.int .i64 (4), .int .i64 (1))]), (27, .cells [.int .u32 (0)]), (26, .map [(.int .i64 (1), .int .i64 (1)), (.int .i64 (4), .int .i64 (1))]), (25, .cells [.int .u32 (0)]), (24, .map [(.int .i64 (1), .int .i64 (1)), (.int .i64 (4), .int .i64 (1))]), (23, .cells [.int .u32 (23)]), (22, .map [(.int .i64 (1), .int .i64 (1)), (.int .i64 (4), .int .i64 (1))]), (21, .cells [.int .u32 (16)]), (20, .map [(.int .i64 (1), .int .i64 (1)), (.int .i64 (4), .int .i64 (1))]), (19, .cells [.int .u32 (0)]), (18, .map [(.int .i64 (1), .int .i64 (1)), (.int .i64 (4), .int .i64 (1))]), (17, .cells [.int .u32 (1)]), (16, .map [(.int .i64 (1), .int .i64 (1)), (.int .i64 (4), .int .i64 (1))]), (15, .cells [.int .u32 (3)]), (14, .map [(.int .i64 (1), .int .i64 (1)), (.int .i64 (4), .int .i64 (1))]), (13, .cells [.int .u32 (16)]), (12, .map [(.int .i64 (1), .int .i64 (1)), (.int .i64 (4), .int .i64 (1))]), (11, .cells [.int .u32 (0)]), (10, .map [(.int .i64 (1), .int .i64 (1)), (.int .i64 (4), .int .i64 (1))]), (9, .cells [.int .u32 (65)]), (8, .cells [.ptr 7 0]), (7, .cells [.int .i64 (1), .int .i64 (1), .ptr 1 0, .ptr 4 0, .ptr 5 0, .ptr 3 0, .ptr 6 0, .int .u32 (0), .int .u32 (65), .int .u32 (0), .int .u32 (0), .int .u32 (0), .int .u32 (0), .int .u32 (0), .int .u32 (0), .int .u32 (12), .int .u32 (0), .int .u32 (0), .int .u32 (0), .int .u32 (0), .bool true, .bool false, .bool false, .int .i64 (3), .bool true, .int .u32 (0), .int .u32 (0)]), (6, .cells [.nilsl, .nilsl, .int .i64 (0), .int .i64 (0), .bool true]), (5, .cells [.int .u32 (0), .int .u32 (0), .bool false, .bool false, .bool false, .bool false, .nilsl, .int .i64 (0), .sl true 1 [[.int .u8 (65)]], .bool true]), (4, .cells [.bool false, .int .u32 (0), .int .u32 (0), .bool false, .bool false, .int .u32 (0), .int .u32 (0), .bool false, .bool false, .int .u32 (0), .int .u32 (0), .bool false, .bool false, .int .u32 (0), .int .u32 (0), .bool false, .int .i64 (0), .bool true]), (3, .cells [.int .i64 (1), .map 2]), (2, .map []), (1, .cells [.rsl 0 1 0 64]), (0, .arr 1 [[.int .u8 (65)], [.int .u8 (0)], [.int .u8 (16)], [.int .u8 (3)], [.int .u8 (1)], [.int .u8 (0)], [.int .u8 (16)], [.int .u8 (23)], [.int .u8 (0)], [.int .u8 (0)], [.int .u8 (0)], [.int .u8 (1)], [.int .u8 (0)], [.int .u8 (0)], [.int .u8 (0)], [.int .u8 (0)], [.int .u8 (0)], [.int .u8 (0)], [.int .u8 (0)], [.int .u8 (0)], [.int .u8 (0)], [.int .u8 (0)], [.int .u8 (0)], [.int .u8 (0)], [.int .u8 (0)], [.int .u8 (0)], [.int .u8 (0)], [.int .u8 (0)], [.int .u8 (0)], [.int .u8 (0)], [.int .u8 (0)], [.int .u8 (0)], [.int .u8 (0)], [.int .u8 (0)], [.int .u8 (0)], [.int .u8 (0)], [.int .u8 (0)], [.int .u8 (0)], [.int .u8 (0)], [.int .u8 (0)], [.int .u8 (0)], [.int .u8 (0)], [.int .u8 (0)], [.int .u8 (0)], [.int .u8 (0)], [.int .u8 (0)], [.int .u8 (0)], [.int .u8 (0)], [.int .u8 (0)], [.int .u8 (0)], [.int .u8 (0)], [.int .u8 (0)], [.int .u8 (0)], [.int .u8 (0)], [.int .u8 (0)], [.int .u8 (0)], [.int .u8 (0)], [.int .u8 (0)], [.int .u8 (0)], [.int .u8 (0)], [.int .u8 (0)], [.int .u8 (0)], [.int .u8 (0)], [.int .u8 (0)]])], next := 121 }
theorem knc4 : (handler Tryz.prog ppol 199).call (.func 5) [.ptr 8 0] kn4 = some (.ret (.tup [.agg [.int .i64 (3), .int .u32 (8), .int .u32 (16777216), .int .u32 (0), .sl false 3 [[.int .i64 (0), .int .i64 (0), .sl false 2 [[.int .i64 (7), .int .i64 (0)], [.int .i64 (8), .int .i64 (0)], [.int .i64 (9), .int .i64 (0)], [.int .i64 (2), .int .i64 (0)]]], [.int .i64 (0), .int .i64 (0), .sl false 2 [[.int .i64 (10), .int .i64 (8)], [.int .i64 (10), .int .i64 (9)], [.int .i64 (10), .int .i64 (10)], [.int .i64 (10), .int .i64 (11)]]], [.int .i64 (2), .int .i64 (0), .sl false 2 [[.int .i64 (2), .int .i64 (0)]]]]], .int .i64 (0)]), kn5) := by kernel_rfl
end Go.Ab.Seat
/- known() answers true. -/
namespace Go.Ab
variable {P : Program} {H : Handler} {pol : Pol} {f : FuncId} {N : Nat}
theorem loop_step {keep : Option (List Bool)} {body : St → Option (AExit × St)} {st : St} : loopN keep body (N + 1) st = contK (body (st.masked keep)) (loopN keep body N) := (rfl)
theorem contK_normal (st : St) (k : St → Option (AExit × St)) : contK (some (.normal, st)) k = k st := (rfl)
attribute [simp] contK_normal
def runTrue : Option (AEnd × AMode × Sto) → Bool
  | some (.ret (.bool true), _, _) => true
  | _ => false
theorem runTrue_some {r : Option (AEnd × AMode × Sto)} (h : runTrue r = true) : ∃ p S, r = some (.ret (.bool true), p, S) := by
  match r, h with
  | some (.ret (.bool true), p, S), _ => exact ⟨p, S, rfl⟩
theorem call_free0 {f : FuncId} {n : Nat} (hf : pol.free f = true) (h : runTrue (runFn P (handler P pol n) n pol f .none [] { heap := [], next := 0 }) = true) (S : Sto) :
    (handler P pol (n + 1)).call (.func f) [] S = some (.ret (.bool true), S) := by
  obtain ⟨p, S', h⟩ := runTrue_some h
  simp only [handler, hf, if_true, h]
/-- A handler that answers true at once where f is called without arguments. -/
def hkCall (f : FuncId) (H : Handler) (t : Tgt) (args : List AV) (S : Sto) : Option (AEnd × Sto) :=
  match t, args with
  | .func g, [] => if Nat.beq g f then some (.ret (.bool true), S) else H.call (.func g) [] S
  | t, args => H.call t args S
def hk (f : FuncId) (H : Handler) : Handler := { free := H.free, call := hkCall f H, callD := H.callD, code := H.code }
theorem hk_eq {f : FuncId} {H : Handler} (h : ∀ S, H.call (.func f) [] S = some (.ret (.bool true), S)) : H = hk f H := by
  have e : H.call = hkCall f H := by
    funext t args S
    unfold hkCall
    split
    · rename_i g
      by_cases hb : Nat.beq g f = true
      · rw [if_pos hb]; cases Nat.eq_of_beq_eq_true hb; exact h S
      · rw [if_neg hb]
    · rfl
  cases H with
  | mk a b c d => simp only [hk] at e ⊢; rw [← e]
end Go.Ab
namespace Go.Ab.Seat
open Go.Proofs
set_option maxRecDepth 100000
set_option maxHeartbeats 1000000
theorem b44 : buildA Tryz.prog 44 [(0, .int .i64 1), (1, .int .i64 1)] = some (.agg [.int .i64 1, .int .i64 1]) := by kernel_rfl
theorem bs22 : buildSliceA Tryz.prog 22 12 [(0, .int .u8 65), (1, .int .u8 0), (2, .int .u8 16), (3, .int .u8 3), (4, .int .u8 1), (5, .int .u8 0), (6, .int .u8 16), (7, .int .u8 23), (8, .int .u8 0), (9, .int .u8 0), (10, .int .u8 0), (11, .int .u8 1)] =
    some (.sl true 1 [[.int .u8 65], [.int .u8 0], [.int .u8 16], [.int .u8 3], [.int .u8 1], [.int .u8 0], [.int .u8 16], [.int .u8 23], [.int .u8 0], [.int .u8 0], [.int .u8 0], [.int .u8 1]]) := by kernel_rfl
theorem w1 : IntKind.i64.wrap 1 = 1 := by decide
theorem w2 : IntKind.i64.wrap (1 + 1) = 2 := by decide
theorem w2' : IntKind.i64.wrap 2 = 2 := by decide
theorem w3 : IntKind.i64.wrap (2 + 1) = 3 := by decide
theorem w3' : IntKind.i64.wrap 3 = 3 := by decide
theorem known_run : runTrue (runFn Tryz.prog (handler Tryz.prog ppol 199) 199 ppol 4 .none [] { heap := [], next := 0 }) = true := by
  rw [runFn_eq Tryz.func4 (by rfl)]
  simp [Tryz.f4, knc0, knc1, b44, bs22]
  rw [loop_step]
  simp [knc2, w1, w2, w3, w2', w3']
  rw [loop_step]
  simp [knc3, w1, w2, w3, w2', w3']
  rw [loop_step]
  simp [knc4, w1, w2, w3, w2', w3']
  rw [loop_step]
  simp
  kernel_rfl
theorem known_call (S : Sto) : (handler Tryz.prog ppol 200).call (.func 4) [] S = some (.ret (.bool true), S) := call_free0 (n := 199) rfl known_run S
end Go.Ab.Seat
/- BoardNil by the evaluator. -/
namespace Go.Ab.Seat
open Go.Proofs
set_option maxRecDepth 100000
set_option maxHeartbeats 1000000
theorem nil_none (k n at' : Int) : runTrue (runFn Tryz.prog (hk 4 (handler Tryz.prog ppol 200)) 200 ppol 3 .none [.agg [.int .i64 k, .int .i64 n, .int .i64 at', .nilsl]] { heap := [], next := 0 }) = true := by kernel_rfl
theorem nil_some (k n at' : Int) (l : List UInt8) : runTrue (runFn Tryz.prog (hk 4 (handler Tryz.prog ppol 200)) 200 ppol 3 .none [.agg [.int .i64 k, .int .i64 n, .int .i64 at', .sl false 1 (l.map byteRow)]] { heap := [], next := 0 }) = true := by
  rw [runFn_eq Tryz.func3 (by rfl)]
  cases h : decide ((100 : Int) < (l.length : Int)) with
  | true =>
    simp only [decide_eq_true_eq] at h
    simp [Tryz.f3, lenA, h]
    kernel_rfl
  | false =>
    simp only [decide_eq_false_iff_not] at h
    simp [Tryz.f3, lenA, h]
    kernel_rfl
theorem nil_run (k n at' : Int) (o : Option (List UInt8)) : ∃ p S, runFn Tryz.prog (handler Tryz.prog ppol 200) 200 ppol 3 .none [.agg [.int .i64 k, .int .i64 n, .int .i64 at', sv false 1 byteRow o]] { heap := [], next := 0 } = some (.ret (.bool true), p, S) := by
  rw [hk_eq known_call]
  cases o with
  | none => exact runTrue_some (nil_none k n at')
  | some l => exact runTrue_some (nil_some k n at' l)
end Go.Ab.Seat
/- The row of BoardNil. -/
namespace Go.Ab
open Go.ChangeShapes Go.RowKit
section
variable {H : Type} {enc : TypeId × Value → H} {P : Program} {W : World}
theorem byteRow_of (n : Nat) (h : n < 256) : byteRow (UInt8.ofNat n) = [.int .u8 n] := by
  simp [byteRow, Nat.mod_eq_of_lt h]
theorem Reads.map {t : TypeId} {X Y : Type} {g : X → List AV} {g' : Y → List AV} {p : X → Prop} {p' : Y → Prop} (hr : Reads P enc W t X g p) (c : X → Y) (h : ∀ x, p x → g x = g' (c x) ∧ p' (c x)) : Reads P enc W t Y g' p' := by
  intro fuel cs x hx
  obtain ⟨y, h1, h2, h3⟩ := hr fuel cs x hx
  obtain ⟨k1, k2⟩ := h y h1
  exact ⟨c y, k2, k1 ▸ h2, h3⟩
theorem reads_four {t : TypeId} {f0 f1 f2 f3 : Field} {X0 X1 X2 X3 : Type} {g0 : X0 → List AV} {g1 : X1 → List AV} {g2 : X2 → List AV} {g3 : X3 → List AV} {p0 : X0 → Prop} {p1 : X1 → Prop} {p2 : X2 → Prop} {p3 : X3 → Prop}
    (ht : P.underlying t = some (.struct #[f0, f1, f2, f3])) (h0 : Reads P enc W f0.type X0 g0 p0) (o0 : f0.offset = 0) (c0 : P.cellsOf f0.type = 1) (h1 : Reads P enc W f1.type X1 g1 p1) (o1 : f1.offset = 1) (c1 : P.cellsOf f1.type = 1)
    (h2 : Reads P enc W f2.type X2 g2 p2) (o2 : f2.offset = 2) (c2 : P.cellsOf f2.type = 1) (h3 : Reads P enc W f3.type X3 g3 p3) (o3 : f3.offset = 3) (c3 : P.cellsOf f3.type = 1) (c : P.cellsOf t = 4) :
    Reads P enc W t (X0 × X1 × X2 × X3) (fun z => g0 z.1 ++ (g1 z.2.1 ++ (g2 z.2.2.1 ++ g3 z.2.2.2))) (fun _ => True) := by
  have n : ReadsFields P enc W [] (0 + P.cellsOf f0.type + P.cellsOf f1.type + P.cellsOf f2.type + P.cellsOf f3.type) Unit (fun _ => []) (fun _ => True) (P.cellsOf t) := by
    rw [c0, c1, c2, c3, c]; exact fields_nil
  have s3 := fields_cons (off := 0 + P.cellsOf f0.type + P.cellsOf f1.type + P.cellsOf f2.type) h3 (by rw [o3, c0, c1, c2]) (by rw [c0, c1, c2, c3, c]; omega) n
  have s2 := fields_cons (off := 0 + P.cellsOf f0.type + P.cellsOf f1.type) h2 (by rw [o2, c0, c1]) (by rw [c0, c1, c2, c]; omega) s3
  have s1 := fields_cons (off := 0 + P.cellsOf f0.type) h1 (by rw [o1, c0]) (by rw [c0, c1, c]; omega) s2
  have s0 := fields_cons (off := 0) h0 o0 (by rw [c0, c]; omega) s1
  exact (reads_struct ht s0).map (fun z => (z.1, z.2.1, z.2.2.1, z.2.2.2.1)) fun z _ => ⟨by simp, trivial⟩
end
end Go.Ab
namespace Go.Ab.Seat
open Go.Proofs Go.ChangeShapes Go.RowKit
set_option maxRecDepth 100000
section
variable {H : Type} {enc : TypeId × Value → H} {W : World}
theorem fine : Fine Tryz.prog := fine_of (by kernel_rfl)
theorem reads_byte : Reads Tryz.prog enc W 5 UInt8 byteRow (fun _ => True) :=
  (reads_int Tryz.underlying5).map (fun n => UInt8.ofNat n.toNat) fun n hn => by
    have : 0 ≤ n ∧ n ≤ 255 := by simpa [Lit.wf, IntKind.min, IntKind.max, IntKind.signed, IntKind.bits] using hn
    refine ⟨?_, trivial⟩
    rw [byteRow_of _ (by omega), Int.toNat_of_nonneg this.1]
theorem reads_bytes : Reads Tryz.prog enc W 22 (Option (List UInt8)) (fun o => [sv false 1 byteRow o]) (fun _ => True) :=
  (reads_slice Tryz.underlying22 (by rw [tycells5]; omega) reads_byte).map id fun o _ => ⟨by rw [slA_sv, tycells5]; rfl, trivial⟩
theorem reads_i64 : Reads Tryz.prog enc W 3 Int (fun n => [.int .i64 n]) (fun _ => True) := (reads_int Tryz.underlying3).map id fun _ _ => ⟨rfl, trivial⟩
theorem reads_act : Reads Tryz.prog enc W 24 (Int × Int × Int × Option (List UInt8)) (fun z => [.int .i64 z.1, .int .i64 z.2.1, .int .i64 z.2.2.1, sv false 1 byteRow z.2.2.2]) (fun _ => True) :=
  reads_four Tryz.underlying24 reads_i64 rfl tycells3 reads_i64 rfl tycells3 reads_i64 rfl tycells3 reads_bytes rfl tycells22 tycells24
end
end Go.Ab.Seat
namespace Go.Proofs.YtllahcnidoodoaaGreat
open Go.Ab Go.Ab.Seat Go.ChangeShapes Go.WideShapes Go.ChangeAt Go.RowKit
theorem seatOwn : ownKnob Tryz.prog.godebug = none := by kernel_rfl
theorem seatLaid : laidOutB Tryz.prog = true := by kernel_rfl
set_option maxRecDepth 100000 in
theorem boardNil_lifted (os : Os) (started : os.Started) (H : Type) (enc : TypeId × Value → H) :
    ReturnsInHanded {} Tryz.checked os 3 .any (Rows.boardNilSpec.pre6 enc Tryz.prog Tryz.f3 Rows.boardNilRow.domain false) (Rows.boardNilSpec.post enc Tryz.prog Tryz.f3 false true false false) := by
  refine lifted_of_ev (C := Tryz.checked) (rt := 4) started seatOwn (by kernel_rfl) Tryz.func3
    (ChangeSpec.witness6 (enc := enc) (C := Tryz.checked) false ⟨#[], #[.agg #[.int .i64 0, .int .i64 0, .int .i64 0, .slice none 0 0]], []⟩ 8 (by kernel_rfl) (by kernel_rfl) (by kernel_rfl) (by kernel_rfl))
    fine seatLaid ?_ ?_ ?_ ?_ ppol ?_
  · intro t ht
    rw [show Tryz.f3.params.toList = [24] from rfl] at ht
    simp only [List.mem_cons, List.not_mem_nil, or_false] at ht
    subst ht
    exact ⟨by kernel_rfl, of_decide_eq_true (by kernel_rfl)⟩
  · rfl
  · exact Tryz.underlying4
  · refine ⟨rfl, fun H ds hds => ?_⟩
    match ds, hds with
    | [d1], _ => exact ⟨rfl, rfl, rfl⟩
  · intro W args ds ps hval hA
    obtain ⟨base, hval⟩ := hval
    have hA : DataW.TrodAll enc Tryz.prog W 0 (fun _ => true) true [24] args ds ps := hA
    obtain ⟨v0, vs0, d0, ds0, p0, q0, rfl, rfl, rfl, h0, r0⟩ := trodAll_cons hA
    obtain ⟨rfl, rfl, rfl⟩ := trodAll_nil r0
    obtain ⟨cs, rfl, -⟩ := okWide_struct Tryz.underlying24 (hval 0 24 v0 rfl rfl)
    obtain ⟨z, -, k0⟩ := arg_agg reads_act h0
    obtain ⟨p, S', e⟩ := nil_run z.1 z.2.1 z.2.2.1 z.2.2.2
    exact ⟨_, k0, 200, p, S', e⟩
theorem boardNil_holds : Rows.BoardNilSaid :=
  OpenClaim.holds_of_wide 3 Tryz.f3 rfl rfl rfl rfl rfl rfl rfl ⟨rfl, rfl, rfl, rfl, rfl⟩ rfl rfl rfl rfl rfl (by kernel_rfl) Tryz.func3 (by kernel_rfl)
    (of_decide_eq_true (by kernel_rfl)) (by unfold Func.isWrapper; first | (rw [if_pos (by decide +kernel)]; kernel_rfl) | (rw [if_neg (by decide +kernel)]; exact ⟨rfl, rfl⟩))
    (fun os started H enc _ => boardNil_lifted os started H enc)
#print axioms boardNil_holds
end Go.Proofs.YtllahcnidoodoaaGreat
