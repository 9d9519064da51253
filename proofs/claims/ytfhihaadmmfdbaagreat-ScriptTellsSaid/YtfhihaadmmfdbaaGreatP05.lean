/- Raw and Check tell of one event as the document says, whatever the event (pomanderlaw19.ScriptTells). No conditions. -/
import Derived.Test.YtfhihaadmmfdbaaGreatP04
import Derived.Test.YtfhihaadmmfdbaaGreatProg
import Derived.KernelRfl
namespace Go.Ab.Seat
open Go.Proofs
def ptakes : Nat → List Nat := fun f => match f with
 | 14 => [66, 54, 38, 26]
 | 15 => [18]
 | 18 => [14]
 | 22 => [94, 46, 40]
 | 25 => [62, 50, 37, 23, 15]
 | 58 => [8]
 | 75 => [17]
 | 77 => [17]
 | 128 => [8]
 | 147 => [8]
 | 195 => [115]
 | 209 => [73]
 | 211 => [56]
 | 214 => [24]
 | 219 => [34]
 | 244 => [47]
 | 247 => [11]
 | 251 => [15]
 | 252 => [49]
 | 269 => [10]
 | 277 => [13]
 | 305 => [80]
 | 319 => [11]
 | 322 => [70, 66]
 | 327 => [22]
 | _ => []
def plocs : Nat → List Nat := fun f => match f with
 | 6 => [1]
 | 8 => [2, 3]
 | 10 => [4]
 | 12 => [1, 3]
 | 13 => [1]
 | 14 => [8, 9]
 | 18 => [4]
 | 19 => [2, 3]
 | 20 => [2, 3]
 | 21 => [2, 3]
 | 22 => [2, 4, 10, 11, 15]
 | 25 => [1]
 | 28 => [2, 4]
 | 37 => [1]
 | 38 => [3, 4]
 | 42 => [2]
 | 49 => [3, 4]
 | 51 => [3]
 | 52 => [3]
 | 53 => [3]
 | 54 => [3]
 | 55 => [3]
 | 56 => [3]
 | 57 => [3]
 | 58 => [5]
 | 59 => [3, 6, 7]
 | 67 => [1]
 | 68 => [1, 5]
 | 69 => [2]
 | 81 => [4]
 | 84 => [2, 3]
 | 85 => [4, 5]
 | 111 => [3]
 | 128 => [5]
 | 185 => [4]
 | 195 => [6]
 | 205 => [5]
 | 206 => [2]
 | 209 => [2]
 | 211 => [12]
 | 212 => [7, 10]
 | 213 => [9, 11]
 | 220 => [4]
 | 222 => [3]
 | 224 => [4]
 | 228 => [4]
 | 231 => [2, 4]
 | 233 => [8]
 | 235 => [6, 8]
 | 236 => [7]
 | 238 => [1, 2]
 | 243 => [2, 5]
 | 247 => [4]
 | 251 => [2]
 | 252 => [4, 6, 9, 11]
 | 254 => [3]
 | 269 => [4]
 | 270 => [2]
 | 272 => [2, 4]
 | 273 => [2, 4, 5]
 | 274 => [4, 5]
 | 275 => [2, 5, 8, 9]
 | 278 => [5]
 | 281 => [3, 6, 7, 8, 12]
 | 283 => [10]
 | 288 => [1]
 | 290 => [1]
 | 291 => [2]
 | 293 => [2]
 | 294 => [3]
 | 295 => [0]
 | 300 => [5]
 | 301 => [5]
 | 302 => [5]
 | 303 => [5, 8, 12, 13]
 | 304 => [5]
 | 305 => [5, 12]
 | 309 => [2]
 | 310 => [6]
 | 312 => [4, 6, 9, 14]
 | 315 => [2]
 | 325 => [5]
 | 341 => [1]
 | 342 => [4]
 | 343 => [3]
 | 346 => [0]
 | 351 => [7]
 | 353 => [4]
 | 355 => [4]
 | _ => []
def parr3s : Nat → List Nat := fun f => match f with
 | 75 => [18]
 | 204 => [30]
 | _ => []
def pkeeps : Nat → Option (List Bool) := fun f => match f with
 | 3 => some [true, false, false, true, true, false, false, false, false, false, false, false, false, false, false, false, false, false, false, false, false, false, false, false, false, false, false, false, false, false, false, false, false, false, false, false, false, false, false, false, false, false, false, false, false, false, false, false, false, false, false, false, false, false, false, false, false, false, false, false, false, false, false, false, false, false, false, false, false, false, false, false, false, false, false, false, false, false, false, false, false, false, false, false, false, false, false, false, false, false, false, false, false]
 | 4 => some [true, false, false, true, true, true, true, false, false, false, false, false, false, false, false, false, false, false, false, false, false, false, false, false, false, false, false, false, false, false, false, false, false, false, false, false, false, false, false, false, false, false, false, false, false, false, false, false, false, false, false, false, false, false, false, false, false, false, false, false, false, false]
 | 9 => some [true, false, false, true, true, true, false, false, false, false, false, false, false, false, false, false, false, false, false, false, false, false, false, false, false, false, false, false, false, false, false, false, false, false, false, false, false, false, false, false, false, false, false, false, false, false, false]
 | 14 => some [false, false, false, false, true, true, true, false, true, true, false, false, true, true, true, false, false, false, false, false, false, false, false, false, false, false, false, false, false, false, false, false, false, false, true, true, false, false, false, false, false, false, false, false, false, false, false, false, false, false, false, false, false, false, false, false, false, false, false, false, false, false, false, false, false, false, false, false, false, false, false, false, false, false, false, false, false, false, false]
 | 15 => some [true, false, false, false, true, true, false, false, false, false, false, false, false, false, false, false, false, false, false, false, false, false, false, false, false, false]
 | 16 => some [true, true, false, false, false, true, false, false, false, false, false, false, false, false, false, false, false, false, false, false, false, false, false, false, false, false, false]
 | 18 => some [true, false, false, true, false, false, false, false, false, false, false, false, false, false, false, false, false, false, false, false, false, false]
 | 21 => some [false, false, true, true, false, true, false, false, false, false, false, false, false, false, false, false, false, false, false, false, false, false, false, false, false, false, false, false, false, false, false, false, false, false, false, false, false, false, false, false, false, false, false, false, false, false, false, false, false, false, false, false, false, false, false, false, false, false, false, false, false, false, false, false, false, false, false, false, false, false, false, false, false, false, false, false, false, false, false, false, false, false, false, false, false, false, false, false, false, false, false, false, false, false, false, false, false, false, false, false, false, false, false, false, false]
 | 22 => some [false, false, false, false, true, false, true, false, true, false, false, false, false, false, false, false, false, false, false, false, false, false, false, false, false, false, true, true, true, false, false, false, false, false, false, false, false, false, false, false, false, false, false, false, false, false, false, false, false, false, false, false, false, false, false, false, false, false, false, false, false, false, false, false, false, false, false, false, false, false, false, false, false, false, false, false, false, false, false, false, false, false, false, false, false, false, false, false, false, false, false, false, false, false, false, false, false, false, false, false, false, false]
 | 32 => some [false, true, true, false, false, false, false, false, false, false, false, false, false, false, false, true, true, true, false, false, false, false, false, false, false, false, false, false, false, false, false, false]
 | 34 => some [true, true, false, false, false, true, false, false, false, false, false, false, false, false, false, false, false, false, false, false, false, false, false, false, false, false]
 | 35 => some [true, true, false, false, false, true, false, false, false, false, false, false, false, false, false, false, false, false, false, false, false, false, false, false, false, false, false, false]
 | 36 => some [true, true, false, false, false, true, false, false, false, false, false, false, false, false, false, false, false, false, false, false, false, false, false, false, false, false]
 | 58 => some [false, false, true, false, false, false, false, false, false, false, false, false, false]
 | 59 => some [true, false, false, true, true, true, true, true, false, false, false, false, false, false, false, false, false, false, false, false, false, false, false, false, false, false, false, false, true, true, false, false, false, false, false, false, false, false, false, false, false, false, false, false, false, false, false, false, false, false, false, false, false, false, false, false, false, false, false, false, false, false, false, false, false, false, false, false, false, false, false, false, false, false, false, false, false, false, false, false, false, false, false, false, false, false, false, false, false, false, false]
 | 63 => some [true, true, false, false, false, false, false, false, false, false, false, false, true, true, false, false, false, false, false, false, false, false, false, false, false, false]
 | 64 => some [true, true, false, false, false, false, false, false, false, false, false, false, true, true, false, false, false, false, false, false, false, false, false, false, false, false]
 | 65 => some [true, true, false, false, false, false, false, false, false, false, false, false, true, true, false, false, false, false, false, false, false, false, false, false, false, false]
 | 66 => some [true, true, false, false, false, false, false, false, false, false, false, false, true, true, false, false, false, false, false, false, false, false, false, false, false, false]
 | 68 => some [true, true, true, true, true, true, true, false, true, true, true, true, true, true, true, true, true, true, true, true, true, true, true, true, true, true, true, true, true, true, true, true, true, true, false, false, false, false, false, true, true, true, true, true]
 | 75 => some [true, false, false, true, false, false, false, true, true, false, false, false, false, false, false, false, false, false, false, false, false, false]
 | 77 => some [false, false, false, true, false, false, false, false, false, false, false, true, true, true, false, false, false, false, false, false, false, false, false, false]
 | 80 => some [false, false, false, true, false, false, false, false, false, false, false, false, false, false, false, false, false, false, false, false, false, false, false, false, false, false, false, false, false, false, false, false, false, false, false, false]
 | 81 => some [true, true, false, false, false, false, false, true, true, true, false, false, false, false, false, false, false, false, false, false, false]
 | 106 => some [false, false, false, true, false, false, false, false, false, false, false, false, false, false, false, false, false, false, false, false, false, false, false, false, false, false, false, false, false, false, false, false]
 | 111 => some [true, false, false, false, false, true, false, false, false, false, false, false, false, false]
 | 125 => some [true, true, false, false, true, false, false, false, false, false, false, false, false, false, true, true, true, false, false, false, false, false, false, false, false, false, false, false, true, true, false, false, false, false, false, false, false, false, false, false, false, false, false, false, false, false, false]
 | 128 => some [false, false, true, false, false, false, false, false, false, false, false, false, false]
 | 129 => some [true, true, true, true, true, false, false, false, false, false, true, true, false, false, false, false, false, false, false, false, false, false, false, false, false, false, false, false, false, false, false, false, false, false, false, false, false, false, false, false, false, false, false, false, false, false, false, false, false, false, false, false, false, false, false, false, false, false, false, false, false, false, false, false, false, false, false, false, false, false, false, false, false, false, false, false, false, false, false, false, false, false, false, false, false, false, false, false, false, false, false, false, false, false, false, false, false, false, false, false, false, false, false, false, false, false, false, false, false, false, false, false, false, false, false, false, false, false, false, false, false, false, false, false, false, false, false, false, false, false, false, false, false, false, false, false, false, false, false, false, false, false, false, false, false, false, false, false]
 | 133 => some [true, false, false, false, false, false, true, false, false, false, false, false, false, false, false, false, false]
 | 136 => some [true, false, false, false, false, true, false, false, false, false, false, false, false, false]
 | 137 => some [true, true, true, true, false, false, false, false, true, true, false, false, false, false, false, false, false, false, false, false, false, false, false, false, false, false, false, false, false, false, false, false, false, false, false, false, false, false, false, false, false, false, false, false, false, false, false, false, false, false, false, false, false]
 | 138 => some [true, false, false, true, false, false, false, false, true, true, true, true, true, false, false, false, false, false, false, false, false, false, false, false, false, false, false, false, false, false, false, false, false, false, false, false, false, false, false, false, false, false, false, false, false, false, false, false, false, false, false, false, false, false, false, false, false, false, false, false]
 | 139 => some [true, true, false, false, false, false, false, false, true, true, true, true, false, false, false, false, false, false, false, false, false, false, false, false, false, false, false, false, false, false, false, false, false, false, false, false, false, false, false, false, false, false, false, false, false, false, false, false, false, false, false, false, false, false, false, false, false, false, false, false, false, false, false, false, false, false, false]
 | 141 => some [true, false, false, false, false, false, false, false, true, true, false, false, false, false, false, false, false, false, false, false, false, false, false, false, false, false, false, false, false, false, false, false, false, false]
 | 142 => some [true, true, true, true, false, false, false, false, false, true, true, true, true, false, false, false, false, false, false, false, false, false, false, false, false, false, false, false, false, false, false, false, false, false, false, false, false, false, false, false, false, false, false, false, false, false, false, false, false, false, false, false, false, false, false, false, false, false, false, false, false, false, false, false, false, false, false, false, false, false, false, false, false, false, false, false, false, false, false, false, false, false, false, false, false, false, false, false, false, false, false, false, false, false, false, false, false, false, false, false, false, false, false, false, false, false, false, false, false, false, false, false, false, false, false, false, false, false, false, false, false, false, false, false, false, false, false, false, false, false, false, false, false, false, false, false, false, false, false, false, false]
 | 143 => some [true, true, false, false, true, false, false, false, false, false, false, true, true, false, false, false, false, false, false, false, false, false, false, false, false, false, false, false, false, false, false, false, false, false, false, false, false, false, false, false, false, false, false, false, false, false, false, false, false, false, false, false, false, false, false, false, false, false, false, false, false, false, false, false, false, false, false, false, false, false, false, false, false, false, false, false, false, false, false, false, false, false, false, false, false, false, false, false, false, false]
 | 144 => some [true, true, false, false, true, false, false, false, false, false, false, false, true, true, false, false, false, false, false, false, false, false, false, false, false, false, false, false, false, false, false, false, false, false, false, false, false, false, false, false, false, false, false, false, false, false, false, false, false, false, false, false, false, false, false, false, false, false, false, false, false, false, false, false, false, false, false, false, false, false, false, false, false, false, false, false, false, false, false, false, false, false, false, false, false, false, false, false, false, false, false, false, false, false, false, false, false, false, false, false, false, false, false, false, false, false, false, false, false, false, false, false, false, false, false, false, false, false, false, false, false, false, false, false, false, false, false, false, false, false, false, false, false, false, false, false, false, false, false, false, false, false, false, false, false, false, false, false, false, false, false, false, false, false, false, false, false, false, false, false, false, false, false, false, false, false, false, false, false, false, false, false, false, false, false, false, false, false]
 | 147 => some [false, false, true, false, false, false, false, false, false, false, false, false, false]
 | 148 => some [true, true, true, true, false, false, false, false, true, true, false, false, false, false, false, false, false, false, false, false, false, false, false, false, false, false, false, false, false, false, false, false, false, false, false, false, false, false, false, false, false, false, false, false, false, false, false, false, false, false, false, false, false, false, false, false, false, false, false, false, false, false, false, false, false, false, false, false, false, false, false, false, false, false, false, false, false, false, false, false, false, false, false, false, false, false, false, false, false, false, false, false, false, false, false, false, false, false, false, false, false, false, false, false, false, false, false, false, false, false, false, false, false, false, false, false, false, false, false, false, false, false, false, false, false, false, false, false, false, false, false, false, false, false]
 | 149 => some [true, false, true, true, true, false, false, false, false, false, true, false, false, false, false, false, false, false, false, false, false, false, false, false, false, false, false, false, false, false, false, false, false, false, false, false, false, false, false, false, false, false, false, false, false, false, false, false, false, false, false, false, false, false, false, false, false, false, false, false, false, false, false, false, false, false, false, false, false, false, false, false, false, false, false, false, false, false, false, false, false, false]
 | 154 => some [true, true, true, false, false, false, true, true, false, false, false, false, false, false, false, false, false, false, false, false, false, false, false, false, false, false, false, false, false, false, false, false, false, false, false, false, false, false, false, false, false, false, false, false, false, false, false, false, false]
 | 155 => some [true, false, false, false, false, false, true, true, true, true, true, false, false, false, false, false, false, false, false, false, false, false, false, false, false, false, false, false, false, false, false, false, false, false, false, false, false, false, false, false, false, false, false, false, false, false, false, false, false, false, false, false, false, false, false, false]
 | 156 => some [true, true, false, false, false, false, true, true, true, true, false, false, false, false, false, false, false, false, false, false, false, false, false, false, false, false, false, false, false, false, false, false, false, false, false, false, false, false, false, false, false, false, false, false, false, false, false, false, false, false, false, false, false, false, false, false, false, false, false, false, false, false, false, false, false]
 | 158 => some [true, false, false, false, false, false, true, true, false, false, false, false, false, false, false, false, false, false, false, false, false, false, false, false, false, false, false, false, false, false, false, false]
 | 159 => some [true, true, true, false, false, false, false, true, true, true, true, false, false, false, false, false, false, false, false, false, false, false, false, false, false, false, false, false, false, false, false, false, false, false, false, false, false, false, false, false, false, false, false, false, false, false, false, false, false, false, false, false, false, false, false, false, false, false, false, false, false, false, false, false, false, false, false, false, false, false, false, false, false, false, false, false, false, false, false, false, false, false, false, false, false, false, false, false, false, false, false, false, false, false, false, false, false, false, false, false, false, false, false, false, false, false, false, false, false, false, false, false, false, false, false, false, false, false, false, false, false, false, false, false, false, false, false, false, false, false, false, false, false]
 | 161 => some [true, true, false, false, false, false, false, false, false, true, true, false, false, false, false, false, false, false, false, false, false, false, false, false, false, false, false, false, false, false, false, false, false, false, false, false, false, false, false, false, false, false, false, false, false, false, false, false, false, false, false, false, false, false, false, false, false, false, false, false, false, false, false, false, false, false, false, false, false, false, false, false, false, false, false, false, false, false, false, false, false, false, false, false]
 | 162 => some [true, true, false, false, false, false, false, false, false, false, true, true, false, false, false, false, false, false, false, false, false, false, false, false, false, false, false, false, false, false, false, false, false, false, false, false, false, false, false, false, false, false, false, false, false, false, false, false, false, false, false, false, false, false, false, false, false, false, false, false, false, false, false, false, false, false, false, false, false, false, false, false, false, false, false, false, false, false, false, false, false, false, false, false, false, false, false, false, false, false, false, false, false, false, false, false, false, false, false, false, false, false, false, false, false, false, false, false, false, false, false, false, false, false, false, false, false, false, false, false, false, false, false, false, false, false, false, false, false, false, false, false, false, false, false, false, false, false, false, false, false, false, false, false, false, false, false, false, false, false, false, false, false, false, false, false, false, false, false, false, false, false, false, false, false, false, false, false]
 | 164 => some [true, false, true, true, false, false, false, false, true, false, false, false, false, false, false, false, false, false, false, false, false, false, false, false, false, false, false, false, false, false, false, false, false, false, false, false, false, false, false, false, false, false, false, false, false, false, false, false, false, false, false, false, false, false, false, false, false, false, false, false, false, false, false, false, false, false, false, false, false, false, false, false, false, false, false, false]
 | 185 => some [true, false, false, false, true, false, true, false, false, false, false, false, false, false, false, false, false, false, false, false, true, true, false, false, false, false, false, false, false, false, false, false, false, false, false]
 | 194 => some [true, true, false, false, false, false, false, false, false, false, false, false, false, false, false, false, false, false, false, false, false, false, false, false, false, false, false, false, false, false, false, false, false, false, false, false, false, false, false, false, false, true, true, true, false, false, false, false, false, false, false, false, false, false, false, false, false, false, false, false, false, false, false]
 | 205 => some [true, false, false, true, false, true, false, false, false, false, false, false, false, false, false, false, false, false, false, false, false, false, false, false, false, false, false, false, false, false, false, false, false, false, false, false, false, false, false, false, false, false, false, false, false, false, false, false, false, false, false, false, false, true, true, false, false, false, false, false, false, false, false, false, false, false, false, false]
 | 211 => some [true, true, false, false, false, false, false, false, false, false, true, false, false, false, false, false, false, false, false, false, false, false, false, false, false, false, true, true, true, false, false, false, false, false, false, false, false, false, false, false, false, false, false, false, false, false, false, false, false, false, false, false, false, false, false, false, false, false, false, false, false, false, false, false, false]
 | 212 => some [true, false, false, false, false, true, false, false, false, false, false, false, false, false, false, false, false, false, false, false, false, true, true, true, false, false, false, false, false, false, false, false, false, false, false, false, false, false, false, false, false, false, false, false, false, false, false, true, false, false, false, false, false, false, false, false, false]
 | 213 => some [true, true, true, true, true, true, false, true, true, true, true, true, true, true, true, false, true, true, true, true, true, true, true, true, true, false, false, true, true, true, true, true, true, true, true, true, true, true, true, true, true, true, true, true, true, true, true, true, true, true, true, true, true, true, true, true, true, true, true, true, true, true, true, true, true, true, true, true, true, true, true, true, true, true, true, true, true, true, true, true, true, true, true, true, true, true]
 | 226 => some [true, true, false, false, false, true, true, false, false, false, false, false, false, false, false, false, false, false]
 | 229 => some [false, false, true, false, true, true, false, false, false, false, false, false, false, false, false, false, false, false]
 | 233 => some [true, false, false, false, false, false, true, false, false, false, false, false, false, false, false, false, false, true, true, true, false, false, false, false, false, false, false, false, false, false, false, false, false, false, false]
 | 235 => some [true, false, false, false, false, false, false, false, false, true, true, true, false, false, false, false, false, false, false, false, false, false, false, false, false, false, false, true, true, true, false, false, false, false, false, false, false, false, false]
 | 236 => some [true, false, false, false, false, true, false, false, true, true, true, false, false, false, false, false, false, false, false, false, false]
 | 243 => some [false, false, true, true, false, true, true, false, false, false, false, false, false, false, false, false, false, false, false, false, false, false]
 | 252 => some [true, true, false, false, false, false, false, false, true, true, false, false, false, false, false, false, false, false, false, false, false, false, false, false, false, false, false, false, false, false, false, false, false, false, false, false, false, false, false, false, false, false, false, false, false, false, false, false, false, false, false, false, false, false, false, false, false, false, false, false, false, false, false, false, false, false, false, false, false, false, false, false, false, false, false, false, false, false, false, false, false, false, false, false, false, false, false, false, false, false, false, false, false, false, false, false, false, false, false, false, false, false, false, false, false, false, false, false, false, false, false, false, false, false, false, false, false, false, false, false, false, false, false, false, false, false, false, false, false, false, false, false, false, false, false, false, false, false, false, false, false, false, false, false, false, false, false, false, false, false, false, false, false, false, false, true, true, true, false, false, false, false, false, false, false, false, false, false, false, false, false, false, false, false, false, false, false, false, false, false, false, false, false, false, false, false, false, false, false, false, false, false, false, false, false, false, false, false, false, false, false, false, false, false, false, false, false, false, false, false, false, false, false, false, true, false, false, false, false, false, false, false, false, false, false, false, false, false, false, false, false, false, false, false, false, false, false, false, false, false, false, false, false, false]
 | 268 => some [true, false, false, false, false, false, false, false, true, true, true, false, false, false, false, false, false, false, false, false, false, false, false, false]
 | 277 => some [true, true, false, false, false, false, false, true, false, true, true, false, false, false, false, false, false, false, false, false, false, false, false]
 | 285 => some [false, true, false, true, false, false, false, false, false, false, false, false, false, false, false, false, false, false, false, false, false, false, false, false, false, false, false, false, false, false, false, false, false, false, true, true, false, false, false, false, false, false, false, false]
 | 296 => some [true, true, false, false, false, true, true, false, false, false, false, false, false, false, false, false, false, false, false, false]
 | 303 => some [false, false, false, true, false, false, true, false, true, false, true, false, false, false, false, false, false, false, false, false, false, false, false, false, false, false, false, false, false, false, false, false, false, false, false, false, false, false, false, false, false, false, false, false, false, false, false, false, false, false, false, false, false, false, false, false, false, false, false, false, false, false, false, false, false, false, false, false, false, false, false, false, false, false, false, false, false, false, false, false, false, false, false, false, false, false, false, false, false, false, false, false, false, false, false, false, false, false, false, false, false, false, false, false, false, false, false, false, false, false, false, false, false, false, false, false, false, false, false, false, false, false, false, false, false, false, false, false, false, false, false, false, false, false, false, false, false, false, false, false, false, false, false, false, false, false, false, false, false, false, false, false, false, false, false, false, false, false, false, false, false, false, false, false, false, false, false, false, false, false, false, false, false, false, false, false, false, false, false, false, false, false, false, false, false, false, false, false, false]
 | 304 => some [false, false, false, true, false, false, true, false, true, true, false, false, false, false, false, false, false, false, false, false, false, false, false, false, false, false, false, false, false, false, false, false, false, false, false, false, false, false, false, false, false, false, false, false, false, false, false, false, false, false, false, false, false, false, false, false, false, false, false, false, false, false, false, false, false, false, false, false, false, false, false, false, false, false, false, false, false, false, false, false, false, false, false, false, false, false, false, false, false, false, false, false, false, false, false, false, false, false, false, false, false, false, false, false, false, false, false, false, false, false, false, false, false, false, false, false, false, false, false, false, false, false, false, false, false, false, false, false, false, false, false, false, false, false, false, false, false, false, false, false, false, false, false, false, false, false, false, false, false]
 | 305 => some [false, false, false, true, false, false, true, false, true, false, false, false, true, false, false, false, false, false, false, false, false, false, false, false, false, false, false, false, false, false, false, false, false, false, false, false, false, false, false, false, false, false, false, false, false, false, false, false, false, false, false, false, false, false, false, false, false, false, false, false, false, false, false, false, false, false, false, false, false, false, false, false, false, false, false, false, false, false, false, false, false, false, false, false, false, false, false, false, false, false, false, false, false, false, false, false, false, false, false, false, false, false, false, false, false, false, false, false, false, false, false, false, false, false, false, false, false, false, false, false, false, false, false, false, false, false, false]
 | 322 => some [true, true, true, false, false, false, false, false, true, true, false, true, true, true, false, false, true, true, false, false, false, false, false, false, false, false, false, false, false, false, false, false, false, false, false, false, false, false, false, false, false, false, false, false, false, false, false, false, false, false, false, false, false, false, false, false, false, false, false, false, false, false, false, false, false, false, false, false, false, false, false, false, false, false, false, false, false, false, false, false, false, false, false, false, false, false]
 | 325 => some [false, false, true, true, true, false, false, false, false, false, false, false, false, false, false]
 | 341 => some [false, false, false, true, false, false, false, false, false, false, false, false, true, true, false, false, false, false, false, false, false, false, false, false]
 | 347 => some [true, false, false, false, true, true, false, false, false, false, false, false, false]
 | 351 => some [false, false, false, true, true, true, false, false, false, false, false, false, false, false, false, false, false]
 | 353 => some [true, false, false, false, false, false, false, false, false, false, true, true, true, false, false, false, false, false, false, false, false]
 | 355 => some [true, false, false, false, false, false, true, true, false, false, false, false, false, false, false, false, false, false, false, false, false]
 | _ => none
def pclones : List Nat := [124]
def parrs : List Nat := [58, 61, 86, 92, 119, 128, 147, 244, 255]
def pfrees : List Nat := [10, 12, 275]
def porders : Nat → Nat → List (List Nat) := fun f id => match f, id with
 | 3, 8 => [[0, 1, 2, 3, 6, 7, 8, 9, 4, 5, 10, 11]]
 | 7, 4 => [[0, 1, 2, 3, 4, 5, 6, 7, 8, 9, 10, 11, 12, 13, 14, 15, 16, 17, 18, 19, 20, 21, 22, 23, 24, 25, 26, 27, 28, 29]]
 | 8, 3 => [[0, 1, 3, 4, 2, 5, 6, 7, 8, 9, 10, 11, 12, 13, 14, 15]]
 | 12, 1 => [[1, 2, 0, 3, 4, 5, 6, 7, 8, 9], [0, 1, 2, 3, 4, 5, 6, 7, 8, 9], [0, 1, 2, 3, 4, 5, 7, 8, 6, 9]]
 | 13, 2 => [[0, 1, 2, 3, 4, 5, 6, 7, 8, 9, 10], [0, 1, 2, 3, 4, 5, 6, 7, 8, 9, 10], [0, 1, 2, 3, 4, 8, 9, 5, 6, 7, 10]]
 | 14, 18 => [[0, 1, 2, 3, 4, 5, 6, 7, 8, 9, 10]]
 | 16, 6 => [[0, 1, 2, 3, 4, 5, 6, 7, 8, 9]]
 | 21, 6 => [[0, 1, 2, 3, 4, 5, 6, 7, 8, 9, 10]]
 | 25, 13 => [[0, 1, 2, 3, 4, 5, 6, 7, 8, 9, 10]]
 | 34, 6 => [[0, 1, 2, 3, 4, 5, 6, 7, 8]]
 | 35, 6 => [[0, 1, 2, 3, 4, 5, 6, 7, 8, 9, 10]]
 | 36, 6 => [[0, 1, 2, 3, 4, 5, 6, 7, 8]]
 | 38, 4 => [[1, 2, 5, 6, 0, 3, 4, 7, 8, 9, 10, 11]]
 | 59, 0 => [[0, 1, 2, 3, 4], [0, 1, 2, 3, 4], [0, 1, 2, 3, 4]]
 | 59, 8 => [[0, 1, 2, 4, 5, 3, 6, 7, 8, 9]]
 | 59, 10 => [[0, 1, 2, 3, 4, 5, 6, 7, 8, 9, 10, 11, 12, 13]]
 | 59, 12 => [[0, 2, 3, 4, 1, 5, 6]]
 | 59, 14 => [[0, 1, 2, 4, 5, 6, 3, 7, 8, 9], [0, 1, 2, 3, 4, 5, 6, 7, 8, 9], [0, 1, 2, 3, 4, 5, 6, 7, 8, 9]]
 | 63, 6 => [[0, 1, 2, 3, 4, 5, 6, 7, 8]]
 | 64, 6 => [[0, 1, 2, 3, 4, 5, 6, 7, 8]]
 | 65, 6 => [[0, 1, 2, 3, 4, 5, 6, 7, 8]]
 | 66, 6 => [[0, 1, 2, 3, 4, 5, 6, 7, 8]]
 | 67, 5 => [[0, 1, 4, 6, 2, 3, 5, 7, 8, 9, 10, 11, 12]]
 | 72, 4 => [[0, 1, 2, 3, 4, 5, 6, 8, 9, 10, 11, 12, 13, 14, 16, 17, 18, 19, 20, 21, 22, 24, 25, 26, 27, 28, 29, 30, 32, 33, 34, 35, 36, 37, 38, 7, 15, 23, 31, 39, 40, 41, 42, 43, 44, 45, 46, 47, 48, 49], [0, 1, 2, 3, 4, 5, 6, 7, 8, 9, 10, 11, 12, 13, 14, 15, 16, 17, 18, 19, 20, 21, 22, 23, 24, 25, 26, 27, 28, 29, 30, 31, 32, 33, 34, 35, 36, 37, 38, 39, 40, 41, 42, 43, 44, 45, 46, 47, 48, 49], [0, 1, 2, 3, 4, 5, 6, 7, 8, 9, 10, 11, 12, 13, 14, 15, 16, 17, 18, 19, 20, 21, 22, 23, 24, 25, 26, 27, 28, 29, 30, 31, 32, 33, 34, 35, 36, 37, 38, 39, 40, 41, 42, 43, 44, 45, 46, 47, 48, 49]]
 | 78, 3 => [[0, 1, 2, 3, 4, 5, 6, 7, 9, 10, 11, 12, 14, 15, 16, 17, 19, 20, 21, 22, 8, 13, 18, 23, 24, 25, 26]]
 | 81, 3 => [[0, 1, 2, 3, 4, 5, 6]]
 | 96, 4 => [[0, 1, 2, 3, 5, 6, 7, 8, 4, 9, 10, 11, 12, 13], [0, 1, 2, 3, 4, 5, 6, 7, 8, 9, 10, 11, 12, 13], [0, 1, 2, 3, 4, 5, 6, 7, 8, 9, 10, 11, 12, 13]]
 | 97, 3 => [[0, 1, 2, 3, 4, 5, 6, 7, 8, 9, 10, 11]]
 | 98, 3 => [[0, 1, 2, 3, 5, 6, 7, 8, 10, 11, 12, 13, 14, 15, 16, 17, 4, 9, 18, 19, 20]]
 | 105, 3 => [[0, 1, 2, 3, 4, 5, 6, 7, 9, 10, 11, 12, 14, 15, 16, 17, 8, 13, 18, 19, 20, 21]]
 | 129, 17 => [[0, 1, 2, 3, 4, 5, 6, 7, 8, 9, 10, 11, 12, 13, 14, 15, 16]]
 | 137, 4 => [[0, 1, 2, 3, 4, 5, 6, 7, 8, 9, 10, 11, 12, 13, 14, 15, 16]]
 | 137, 6 => [[0, 1, 2, 3, 4, 5, 6, 7, 8, 9, 10, 11, 12, 13, 14, 15, 16, 17], [0, 1, 2, 3, 4, 5, 6, 7, 8, 9, 10, 11, 12, 13, 14, 15, 16, 17], [0, 1, 5, 6, 7, 8, 9, 10, 11, 12, 13, 14, 15, 2, 3, 4, 16, 17]]
 | 138, 10 => [[0, 1, 2, 3, 4, 5, 6, 7, 8, 9, 10, 11, 12, 13, 14, 15, 16, 17, 18, 19], [0, 1, 2, 3, 4, 5, 6, 7, 8, 9, 10, 11, 12, 13, 14, 15, 16, 17, 18, 19], [0, 1, 6, 7, 8, 9, 10, 11, 12, 13, 14, 15, 16, 17, 2, 3, 4, 5, 18, 19]]
 | 139, 10 => [[0, 1, 2, 3, 4, 5, 6, 7, 8, 9, 10, 11, 12, 13, 14, 15, 16, 17, 18, 19], [0, 1, 2, 3, 4, 5, 6, 7, 8, 9, 10, 11, 12, 13, 14, 15, 16, 17, 18, 19], [0, 1, 6, 7, 8, 9, 10, 11, 12, 13, 14, 15, 16, 17, 2, 3, 4, 5, 18, 19]]
 | 141, 3 => [[0, 1, 2, 3, 4, 5, 6, 7, 8, 9, 10, 11, 12, 13, 14, 15], [0, 1, 2, 3, 4, 5, 6, 7, 8, 9, 10, 11, 12, 13, 14, 15], [0, 1, 4, 5, 6, 7, 8, 9, 10, 11, 12, 13, 2, 3, 14, 15]]
 | 142, 5 => [[0, 1, 2, 3, 4, 5, 6, 7, 8, 9, 10, 11, 12, 13, 14, 15, 16, 17]]
 | 142, 11 => [[0, 1, 2, 3, 4, 5, 6, 7, 8, 9, 10, 11, 12, 13, 14, 15, 16, 17], [0, 1, 2, 3, 4, 5, 6, 7, 8, 9, 10, 11, 12, 13, 14, 15, 16, 17], [0, 1, 5, 6, 7, 8, 9, 10, 11, 12, 13, 14, 15, 2, 3, 4, 16, 17]]
 | 142, 16 => [[0, 1, 2, 3, 4, 5, 6, 7, 8, 9, 10, 11, 12]]
 | 142, 17 => [[0, 1, 2, 3, 4, 5, 6, 7, 8, 9, 10, 11, 12, 13, 14, 15, 16, 17], [0, 1, 2, 3, 4, 5, 6, 7, 8, 9, 10, 11, 12, 13, 14, 15, 16, 17], [0, 1, 5, 6, 7, 8, 9, 10, 11, 12, 13, 14, 15, 2, 3, 4, 16, 17]]
 | 142, 22 => [[0, 1, 2, 3, 4, 5, 6, 7, 8, 9, 10, 11, 12]]
 | 142, 23 => [[0, 1, 2, 3, 4, 5, 6, 7, 8, 9, 10, 11, 12, 13, 14, 15, 16, 17], [0, 1, 2, 3, 4, 5, 6, 7, 8, 9, 10, 11, 12, 13, 14, 15, 16, 17], [0, 1, 5, 6, 7, 8, 9, 10, 11, 12, 13, 14, 15, 2, 3, 4, 16, 17]]
 | 143, 1 => [[0, 1, 2, 3, 4, 5, 6, 7, 8, 9, 10, 11, 12, 13, 14, 15], [0, 1, 2, 3, 4, 5, 6, 7, 8, 9, 10, 11, 12, 13, 14, 15], [0, 1, 4, 5, 6, 7, 8, 9, 10, 11, 12, 13, 2, 3, 14, 15]]
 | 143, 3 => [[0, 1, 2, 3, 4, 5, 6, 7, 8, 9, 10, 11, 12, 13, 14, 15, 16]]
 | 143, 5 => [[0, 1, 2, 3, 4, 5, 6, 7, 8, 9, 10, 11, 12, 13, 14, 15]]
 | 143, 8 => [[0, 1, 2, 3, 4, 5, 6, 7, 8, 9, 10, 11, 12, 13, 14, 15], [0, 1, 2, 3, 4, 5, 6, 7, 8, 9, 10, 11, 12, 13, 14, 15], [0, 1, 4, 5, 6, 7, 8, 9, 10, 11, 12, 13, 2, 3, 14, 15]]
 | 144, 1 => [[0, 1, 2, 3, 4, 5, 6, 7, 8, 9, 10, 11, 12, 13, 14, 15], [0, 1, 2, 3, 4, 5, 6, 7, 8, 9, 10, 11, 12, 13, 14, 15], [0, 1, 4, 5, 6, 7, 8, 9, 10, 11, 12, 13, 2, 3, 14, 15]]
 | 144, 3 => [[0, 1, 2, 3, 4, 5, 6, 7, 8, 9, 10, 11, 12, 13, 14, 15]]
 | 144, 5 => [[0, 1, 2, 3, 4, 5, 6, 7, 8, 9, 10, 11, 12, 13, 14, 15, 16]]
 | 144, 8 => [[0, 1, 2, 3, 4, 5, 6, 7, 8, 9, 10, 11, 12, 13, 14, 15], [0, 1, 2, 3, 4, 5, 6, 7, 8, 9, 10, 11, 12, 13, 14, 15], [0, 1, 4, 5, 6, 7, 8, 9, 10, 11, 12, 13, 2, 3, 14, 15]]
 | 144, 10 => [[0, 1, 2, 3, 4, 5, 6, 7, 8, 9, 10, 11, 12, 13, 14, 15], [0, 1, 2, 3, 4, 5, 6, 7, 8, 9, 10, 11, 12, 13, 14, 15], [0, 1, 4, 5, 6, 7, 8, 9, 10, 11, 12, 13, 2, 3, 14, 15]]
 | 144, 13 => [[0, 1, 2, 3, 4, 5, 6, 7, 8, 9, 10, 11, 12, 13, 14, 15]]
 | 144, 15 => [[0, 1, 2, 3, 4, 5, 6, 7, 8, 9, 10, 11, 12, 13, 14, 15, 16]]
 | 144, 18 => [[0, 1, 2, 3, 4, 5, 6, 7, 8, 9, 10, 11, 12, 13, 14, 15], [0, 1, 2, 3, 4, 5, 6, 7, 8, 9, 10, 11, 12, 13, 14, 15], [0, 1, 4, 5, 6, 7, 8, 9, 10, 11, 12, 13, 2, 3, 14, 15]]
 | 144, 21 => [[0, 1, 2, 3, 4, 5, 6, 7, 8, 9, 10, 11, 12, 13, 14, 15], [0, 1, 2, 3, 4, 5, 6, 7, 8, 9, 10, 11, 12, 13, 14, 15], [0, 1, 4, 5, 6, 7, 8, 9, 10, 11, 12, 13, 2, 3, 14, 15]]
 | 148, 17 => [[0, 1, 2, 3, 4, 5, 6, 7, 8, 9, 10, 11, 12, 13, 14]]
 | 149, 3 => [[0, 1, 2, 3, 4, 5, 6, 7, 8, 9, 10, 11, 12, 13, 14, 15, 16, 17, 18, 19, 20, 21]]
 | 149, 5 => [[0, 1, 2, 3, 4, 5, 6, 7, 8, 9, 10, 11, 12, 13, 14, 15]]
 | 149, 6 => [[0, 1, 2, 3, 4, 5, 6, 7, 8, 9, 10, 11, 12, 13, 14, 15, 16, 17, 18, 19, 20, 21, 22, 23], [0, 1, 2, 3, 4, 5, 6, 7, 8, 9, 10, 11, 12, 13, 14, 15, 16, 17, 18, 19, 20, 21, 22, 23], [0, 1, 2, 3, 8, 9, 10, 11, 12, 13, 14, 15, 16, 17, 18, 19, 20, 21, 4, 5, 6, 7, 22, 23]]
 | 151, 1 => [[0, 1, 2, 3, 4, 5, 6, 7, 8, 9]]
 | 151, 2 => [[0, 1, 2, 3, 4, 5, 6, 7, 8, 9]]
 | 151, 3 => [[0, 1, 2, 3, 4, 5, 6, 7, 8, 9]]
 | 154, 4 => [[0, 1, 2, 3, 4, 5, 6, 7, 8, 9, 10, 11, 12, 13, 14]]
 | 154, 6 => [[0, 1, 2, 3, 4, 5, 6, 7, 8, 9, 10, 11, 12, 13, 14, 15, 16, 17], [0, 1, 2, 3, 4, 5, 6, 7, 8, 9, 10, 11, 12, 13, 14, 15, 16, 17], [0, 1, 5, 6, 7, 8, 9, 10, 11, 12, 13, 14, 15, 2, 3, 4, 16, 17]]
 | 155, 10 => [[0, 1, 2, 3, 4, 5, 6, 7, 8, 9, 10, 11, 12, 13, 14, 15, 16, 17, 18, 19], [0, 1, 2, 3, 4, 5, 6, 7, 8, 9, 10, 11, 12, 13, 14, 15, 16, 17, 18, 19], [0, 1, 6, 7, 8, 9, 10, 11, 12, 13, 14, 15, 16, 17, 2, 3, 4, 5, 18, 19]]
 | 156, 10 => [[0, 1, 2, 3, 4, 5, 6, 7, 8, 9, 10, 11, 12, 13, 14, 15, 16, 17, 18, 19], [0, 1, 2, 3, 4, 5, 6, 7, 8, 9, 10, 11, 12, 13, 14, 15, 16, 17, 18, 19], [0, 1, 6, 7, 8, 9, 10, 11, 12, 13, 14, 15, 16, 17, 2, 3, 4, 5, 18, 19]]
 | 158, 3 => [[0, 1, 2, 3, 4, 5, 6, 7, 8, 9, 10, 11, 12, 13, 14, 15], [0, 1, 2, 3, 4, 5, 6, 7, 8, 9, 10, 11, 12, 13, 14, 15], [0, 1, 4, 5, 6, 7, 8, 9, 10, 11, 12, 13, 2, 3, 14, 15]]
 | 159, 5 => [[0, 1, 2, 3, 4, 5, 6, 7, 8, 9, 10, 11, 12, 13, 14, 15]]
 | 159, 11 => [[0, 1, 2, 3, 4, 5, 6, 7, 8, 9, 10, 11, 12, 13, 14, 15, 16, 17], [0, 1, 2, 3, 4, 5, 6, 7, 8, 9, 10, 11, 12, 13, 14, 15, 16, 17], [0, 1, 5, 6, 7, 8, 9, 10, 11, 12, 13, 14, 15, 2, 3, 4, 16, 17]]
 | 159, 16 => [[0, 1, 2, 3, 4, 5, 6, 7, 8, 9, 10]]
 | 159, 17 => [[0, 1, 2, 3, 4, 5, 6, 7, 8, 9, 10, 11, 12, 13, 14, 15, 16, 17], [0, 1, 2, 3, 4, 5, 6, 7, 8, 9, 10, 11, 12, 13, 14, 15, 16, 17], [0, 1, 5, 6, 7, 8, 9, 10, 11, 12, 13, 14, 15, 2, 3, 4, 16, 17]]
 | 159, 22 => [[0, 1, 2, 3, 4, 5, 6, 7, 8, 9, 10]]
 | 159, 23 => [[0, 1, 2, 3, 4, 5, 6, 7, 8, 9, 10, 11, 12, 13, 14, 15, 16, 17], [0, 1, 2, 3, 4, 5, 6, 7, 8, 9, 10, 11, 12, 13, 14, 15, 16, 17], [0, 1, 5, 6, 7, 8, 9, 10, 11, 12, 13, 14, 15, 2, 3, 4, 16, 17]]
 | 161, 1 => [[0, 1, 2, 3, 4, 5, 6, 7, 8, 9, 10, 11, 12, 13, 14, 15], [0, 1, 2, 3, 4, 5, 6, 7, 8, 9, 10, 11, 12, 13, 14, 15], [0, 1, 4, 5, 6, 7, 8, 9, 10, 11, 12, 13, 2, 3, 14, 15]]
 | 161, 3 => [[0, 1, 2, 3, 4, 5, 6, 7, 8, 9, 10, 11, 12, 13, 14]]
 | 161, 5 => [[0, 1, 2, 3, 4, 5, 6, 7, 8, 9, 10, 11, 12, 13]]
 | 161, 8 => [[0, 1, 2, 3, 4, 5, 6, 7, 8, 9, 10, 11, 12, 13, 14, 15], [0, 1, 2, 3, 4, 5, 6, 7, 8, 9, 10, 11, 12, 13, 14, 15], [0, 1, 4, 5, 6, 7, 8, 9, 10, 11, 12, 13, 2, 3, 14, 15]]
 | 162, 1 => [[0, 1, 2, 3, 4, 5, 6, 7, 8, 9, 10, 11, 12, 13, 14, 15], [0, 1, 2, 3, 4, 5, 6, 7, 8, 9, 10, 11, 12, 13, 14, 15], [0, 1, 4, 5, 6, 7, 8, 9, 10, 11, 12, 13, 2, 3, 14, 15]]
 | 162, 3 => [[0, 1, 2, 3, 4, 5, 6, 7, 8, 9, 10, 11, 12, 13]]
 | 162, 5 => [[0, 1, 2, 3, 4, 5, 6, 7, 8, 9, 10, 11, 12, 13, 14]]
 | 162, 8 => [[0, 1, 2, 3, 4, 5, 6, 7, 8, 9, 10, 11, 12, 13, 14, 15], [0, 1, 2, 3, 4, 5, 6, 7, 8, 9, 10, 11, 12, 13, 14, 15], [0, 1, 4, 5, 6, 7, 8, 9, 10, 11, 12, 13, 2, 3, 14, 15]]
 | 162, 10 => [[0, 1, 2, 3, 4, 5, 6, 7, 8, 9, 10, 11, 12, 13, 14, 15], [0, 1, 2, 3, 4, 5, 6, 7, 8, 9, 10, 11, 12, 13, 14, 15], [0, 1, 4, 5, 6, 7, 8, 9, 10, 11, 12, 13, 2, 3, 14, 15]]
 | 162, 13 => [[0, 1, 2, 3, 4, 5, 6, 7, 8, 9, 10, 11, 12, 13]]
 | 162, 15 => [[0, 1, 2, 3, 4, 5, 6, 7, 8, 9, 10, 11, 12, 13, 14]]
 | 162, 18 => [[0, 1, 2, 3, 4, 5, 6, 7, 8, 9, 10, 11, 12, 13, 14, 15], [0, 1, 2, 3, 4, 5, 6, 7, 8, 9, 10, 11, 12, 13, 14, 15], [0, 1, 4, 5, 6, 7, 8, 9, 10, 11, 12, 13, 2, 3, 14, 15]]
 | 162, 21 => [[0, 1, 2, 3, 4, 5, 6, 7, 8, 9, 10, 11, 12, 13, 14, 15], [0, 1, 2, 3, 4, 5, 6, 7, 8, 9, 10, 11, 12, 13, 14, 15], [0, 1, 4, 5, 6, 7, 8, 9, 10, 11, 12, 13, 2, 3, 14, 15]]
 | 163, 1 => [[0, 1, 2, 3, 4, 5, 6, 7, 8, 9, 10]]
 | 164, 3 => [[0, 1, 2, 3, 4, 5, 6, 7, 8, 9, 10, 11, 12, 13, 14, 15, 16, 17, 18, 19]]
 | 164, 5 => [[0, 1, 2, 3, 4, 5, 6, 7, 8, 9, 10, 11, 12, 13]]
 | 164, 6 => [[0, 1, 2, 3, 4, 5, 6, 7, 8, 9, 10, 11, 12, 13, 14, 15, 16, 17, 18, 19, 20, 21, 22, 23], [0, 1, 2, 3, 4, 5, 6, 7, 8, 9, 10, 11, 12, 13, 14, 15, 16, 17, 18, 19, 20, 21, 22, 23], [0, 1, 2, 3, 8, 9, 10, 11, 12, 13, 14, 15, 16, 17, 18, 19, 20, 21, 4, 5, 6, 7, 22, 23]]
 | 167, 1 => [[0, 1, 2, 3, 4, 5, 6, 7, 8]]
 | 192, 9 => [[0, 1, 2, 3, 4, 5, 6, 7, 8, 9, 10, 11, 12, 13, 14, 15, 16, 17, 20, 18, 19, 21, 22, 23]]
 | 193, 1 => [[0, 1, 2, 3, 4, 5, 6], [0, 1, 2, 3, 4, 5, 6], [0, 1, 2, 3, 4, 5, 6]]
 | 195, 6 => [[0, 1, 2, 3, 4, 5, 6, 7, 8, 9, 10, 11, 12, 13, 14, 15, 16, 17, 18, 19, 20, 21], [0, 1, 2, 3, 4, 5, 6, 7, 8, 9, 10, 11, 12, 13, 14, 15, 16, 17, 18, 19, 20, 21], [0, 1, 2, 3, 4, 5, 6, 7, 8, 9, 10, 11, 12, 13, 14, 15, 16, 17, 18, 20, 19, 21]]
 | 195, 9 => [[0, 1, 2, 3, 4, 5, 6, 7, 8, 9, 10, 11, 12, 13, 14, 15, 16, 17, 18, 19, 20, 21], [0, 1, 2, 3, 4, 5, 6, 7, 8, 9, 10, 11, 12, 13, 14, 15, 16, 17, 18, 19, 20, 21], [0, 1, 2, 3, 4, 5, 6, 7, 8, 9, 10, 11, 12, 13, 14, 15, 16, 17, 18, 20, 19, 21]]
 | 195, 10 => [[0, 1, 2, 3, 4, 5, 6, 7, 8, 9, 10]]
 | 195, 12 => [[0, 1, 2, 3, 4, 5, 6, 7, 8, 9, 10, 11, 12, 13, 15, 16, 14, 17]]
 | 195, 15 => [[0, 1, 2, 3, 4, 5, 6, 7, 8, 9, 10, 11, 12, 13, 14, 15, 16, 17, 18, 19, 20, 21, 22, 23], [0, 1, 2, 3, 4, 5, 6, 7, 8, 9, 10, 11, 12, 13, 14, 15, 16, 17, 18, 19, 20, 21, 22, 23], [0, 4, 5, 12, 13, 14, 1, 6, 7, 15, 16, 17, 2, 8, 9, 18, 19, 20, 3, 10, 11, 21, 22, 23]]
 | 197, 4 => [[0, 1, 2, 3, 4, 5, 6, 7, 8, 9, 10, 11, 12, 13, 14, 15, 16]]
 | 203, 1 => [[0, 1, 2, 3, 4, 5, 6, 7], [0, 1, 2, 3, 4, 5, 6, 7], [0, 1, 2, 3, 4, 5, 6, 7]]
 | 204, 9 => [[0, 1, 2, 3, 4, 5, 6, 7, 8, 9, 10]]
 | 209, 7 => [[0, 1, 2, 3, 4, 5, 6, 7, 8, 9, 10, 11, 12, 13, 14, 15, 16, 17, 18, 19], [0, 1, 2, 3, 4, 5, 6, 7, 8, 9, 10, 11, 12, 13, 14, 15, 16, 17, 18, 19], [0, 1, 2, 3, 4, 5, 6, 7, 8, 9, 10, 11, 12, 13, 14, 15, 16, 18, 17, 19]]
 | 209, 9 => [[0, 1, 2, 3, 4, 5, 6, 7, 8, 9, 10, 11]]
 | 209, 10 => [[0, 1, 2, 3, 4, 5, 6, 7, 8, 9, 10, 11, 12, 13, 14, 15, 16, 17]]
 | 211, 11 => [[0, 1, 3, 4, 5, 7, 8, 9, 2, 6, 10, 11, 12, 13]]
 | 213, 18 => [[0, 1, 2, 3, 4, 5, 6, 7, 8, 9, 10, 11, 12, 13, 14, 15, 16, 17, 18]]
 | 214, 5 => [[0, 1, 2, 3, 5, 8, 4, 6, 7, 9, 10, 11, 12, 13, 14]]
 | 219, 5 => [[0, 1, 2, 3, 4, 5, 6, 7, 8, 9, 10]]
 | 222, 1 => [[0, 1, 2, 3, 4, 5, 6, 7, 8, 9, 10, 11, 12, 13, 14, 15, 16, 18, 19, 17, 20, 21, 22, 23, 24]]
 | 224, 3 => [[0, 1, 2, 3, 4, 5, 6, 7]]
 | 224, 5 => [[0, 1, 2, 3, 4, 5, 6, 7]]
 | 224, 7 => [[0, 1, 2, 3, 4, 5]]
 | 224, 1 => [[0, 1, 2, 3, 4, 5, 6]]
 | 232, 3 => [[0, 1, 2, 3]]
 | 241, 0 => [[0, 1, 2, 3, 4, 5, 6]]
 | 242, 1 => [[0, 1, 2, 3, 4, 5]]
 | 242, 2 => [[0, 1, 2, 3, 4, 5, 6]]
 | 244, 8 => [[0, 1, 2, 3, 4, 5, 6, 7, 8, 9]]
 | 244, 10 => [[0, 1, 2, 3, 4, 5, 6, 7, 8, 9, 10]]
 | 247, 1 => [[0, 1, 2, 3, 4, 6, 7, 8, 9, 5, 10, 11, 12, 13, 14]]
 | 251, 7 => [[0, 1, 2, 3, 4, 5, 6, 7, 8, 9, 10, 11]]
 | 251, 8 => [[0, 1, 2, 3, 4, 5, 6, 7, 8, 9, 10, 11, 12, 13, 14, 15, 16, 17, 18, 19, 20, 21, 22]]
 | 251, 9 => [[0, 1, 2, 3, 4, 5, 6, 7, 8, 9, 10, 11], [0, 1, 2, 3, 4, 5, 6, 7, 8, 9, 10, 11], [0, 1, 4, 5, 6, 7, 2, 3, 8, 9, 10, 11]]
 | 252, 5 => [[0, 1, 2, 3, 4, 6, 7, 8, 9, 10, 11, 12, 13, 14, 15, 16, 5, 17, 18, 19, 20, 21, 22]]
 | 252, 7 => [[0, 1, 2, 3, 4, 5, 6, 7, 8, 9, 10, 11, 12, 13, 14, 15, 16, 17, 18, 19, 20, 21, 22]]
 | 252, 8 => [[0, 1, 2, 3, 4, 5, 6, 7, 8, 9, 10, 11], [0, 1, 2, 3, 4, 5, 6, 7, 8, 9, 10, 11], [0, 4, 5, 6, 7, 1, 2, 3, 8, 9, 10, 11]]
 | 252, 12 => [[0, 1, 2, 3, 4, 5, 6, 7, 8, 9, 10, 11, 12, 13, 14, 15, 16, 17], [0, 1, 2, 3, 4, 5, 6, 7, 8, 9, 10, 11, 12, 13, 14, 15, 16, 17], [0, 1, 2, 3, 4, 5, 6, 7, 8, 9, 10, 11, 12, 13, 14, 15, 17, 16]]
 | 252, 13 => [[0, 1, 2, 3, 4, 5, 6, 7]]
 | 252, 15 => [[0, 1, 2, 3, 4, 5, 6, 7, 8, 9, 10, 11, 12, 13, 14, 15]]
 | 252, 24 => [[0, 2, 3, 1, 4, 5, 6, 7, 8, 9], [0, 1, 2, 3, 4, 5, 6, 7, 8, 9], [0, 1, 2, 3, 4, 5, 6, 8, 7, 9]]
 | 252, 36 => [[0, 1, 2, 3, 4, 5, 6, 7, 8, 9, 10, 11, 12, 13, 14, 15, 16, 17, 18, 19, 20, 21, 22]]
 | 254, 3 => [[0, 1, 2, 3, 4, 5, 6, 7, 8, 9, 10, 11], [0, 1, 2, 3, 4, 5, 6, 7, 8, 9, 10, 11], [0, 1, 2, 3, 4, 5, 6, 7, 8, 10, 9, 11]]
 | 254, 6 => [[0, 1, 2, 3, 4, 5, 6, 7, 8, 9, 10, 11], [0, 1, 2, 3, 4, 5, 6, 7, 8, 9, 10, 11], [0, 1, 2, 3, 4, 5, 6, 7, 8, 10, 9, 11]]
 | 254, 8 => [[0, 1, 2, 3, 4, 5, 6]]
 | 264, 1 => [[0, 1, 2, 3, 4, 5, 6, 7, 8, 9, 10, 11, 12, 13, 14]]
 | 269, 1 => [[0, 1, 2, 3, 5, 6, 7, 8, 4, 9, 10, 11, 12]]
 | 273, 2 => [[0, 1, 2, 3, 4, 5, 6, 7, 8, 9, 10, 11], [0, 1, 2, 3, 4, 5, 6, 7, 8, 9, 10, 11], [0, 1, 2, 3, 4, 10, 5, 6, 7, 8, 9, 11]]
 | 275, 15 => [[0, 1, 2, 4, 5, 3, 6, 7, 8]]
 | 275, 25 => [[0, 1, 2, 4, 5, 7, 8, 3, 6, 9, 10, 11]]
 | 275, 28 => [[0, 1, 2, 4, 5, 3, 6]]
 | 275, 30 => [[0, 1, 2, 5, 6, 3, 4, 7, 8, 9, 10]]
 | 275, 33 => [[0, 2, 3, 6, 7, 1, 4, 5, 8, 9, 10]]
 | 275, 35 => [[0, 3, 4, 1, 2, 5, 6, 7]]
 | 275, 39 => [[0, 1, 2, 3, 4, 5, 6]]
 | 275, 41 => [[0, 1, 2, 3, 4]]
 | 278, 16 => [[0, 1, 2, 3, 4, 5, 6, 7, 8, 9, 10, 11, 12, 13, 14], [0, 1, 2, 3, 4, 5, 6, 7, 8, 9, 10, 11, 12, 13, 14], [0, 1, 2, 3, 4, 5, 6, 7, 8, 9, 10, 11, 13, 12, 14]]
 | 278, 19 => [[0, 1, 2, 3, 4, 5, 6, 7, 8, 9, 10, 11, 12, 13, 14], [0, 1, 2, 3, 4, 5, 6, 7, 8, 9, 10, 11, 12, 13, 14], [0, 1, 2, 3, 4, 5, 6, 7, 8, 9, 10, 11, 13, 12, 14]]
 | 281, 5 => [[0, 1, 2, 3, 4, 5, 6, 7, 8, 9, 10, 11], [0, 1, 2, 3, 4, 5, 6, 7, 8, 9, 10, 11], [0, 1, 2, 3, 4, 10, 5, 6, 7, 8, 9, 11]]
 | 281, 8 => [[1, 2, 0, 3, 4, 5, 6, 7, 8], [0, 1, 2, 3, 4, 5, 6, 7, 8], [0, 1, 2, 3, 4, 5, 7, 6, 8]]
 | 281, 10 => [[0, 1, 2, 3, 4, 5, 8, 6, 7, 9, 10]]
 | 281, 13 => [[0, 1, 2, 3, 4, 5, 6, 7]]
 | 281, 26 => [[0, 1, 2, 3, 5, 4, 6, 7]]
 | 281, 27 => [[0, 1, 2, 3, 4, 6, 5, 7, 8]]
 | 281, 29 => [[0, 1, 2, 3, 4, 5, 6, 7, 8, 9], [0, 1, 2, 3, 4, 5, 6, 7, 8, 9], [0, 1, 4, 5, 6, 7, 2, 3, 8, 9]]
 | 283, 6 => [[0, 1, 2, 3, 4, 5, 6, 7, 8, 9, 10, 11, 12, 13, 14, 15, 16], [0, 1, 2, 3, 4, 5, 6, 7, 8, 9, 10, 11, 12, 13, 14, 15, 16], [0, 1, 2, 3, 4, 5, 6, 7, 8, 9, 10, 15, 11, 12, 13, 14, 16]]
 | 294, 11 => [[0, 1, 2, 4, 5, 3, 6, 7, 8]]
 | 296, 3 => [[0, 1, 2, 3, 4, 5, 6, 7, 8, 9, 10]]
 | 297, 3 => [[0, 1, 2, 3, 4, 5, 6, 7, 8, 9, 10, 11], [0, 1, 2, 3, 4, 5, 6, 7, 8, 9, 10, 11], [0, 1, 2, 3, 4, 5, 10, 6, 7, 8, 9, 11]]
 | 300, 1 => [[0, 1, 2, 3, 4, 5, 6, 7, 8, 9, 10, 11, 12, 13, 16, 17, 14, 15, 18]]
 | 301, 2 => [[0, 2, 3, 1, 4]]
 | 302, 2 => [[0, 2, 3, 1, 4]]
 | 303, 3 => [[0, 1, 2, 3, 4, 5, 6, 7, 8, 9, 10, 11, 12, 13, 14, 15, 16, 17, 18, 19, 20, 21, 22, 23, 24, 25, 26, 27, 28, 29, 30, 31, 32, 33, 34, 35, 36, 37, 38, 39, 40]]
 | 303, 5 => [[0, 1, 2, 3, 4, 5, 6, 7, 8, 9, 10, 11, 12, 13, 14, 15, 16, 17, 18, 19, 20], [0, 1, 2, 3, 4, 5, 6, 7, 8, 9, 10, 11, 12, 13, 14, 15, 16, 17, 18, 19, 20], [0, 1, 2, 3, 4, 5, 6, 7, 8, 9, 10, 11, 12, 13, 14, 15, 16, 18, 19, 17, 20]]
 | 303, 9 => [[0, 1, 2, 3, 4, 5, 7, 8, 9, 6, 10, 11, 12, 13, 14], [0, 1, 2, 3, 4, 5, 6, 7, 8, 9, 10, 11, 12, 13, 14], [0, 1, 2, 3, 4, 5, 6, 7, 8, 9, 10, 11, 12, 13, 14]]
 | 303, 11 => [[0, 1, 2, 3, 4, 5, 6, 7, 8, 9, 10, 11, 12, 13, 14, 15, 16, 17, 18, 19, 20]]
 | 303, 13 => [[0, 1, 2, 3, 4, 5, 6, 7, 8, 9, 10, 11, 12, 13, 14, 15, 16, 17, 18, 19, 20, 21], [0, 1, 2, 3, 4, 5, 6, 7, 8, 9, 10, 11, 12, 13, 14, 15, 16, 17, 18, 19, 20, 21], [0, 1, 2, 3, 4, 5, 6, 7, 8, 9, 10, 11, 12, 13, 14, 15, 16, 17, 18, 20, 19, 21]]
 | 303, 16 => [[0, 1, 2, 3, 4, 5, 6, 7, 8, 9, 10, 11, 12, 13, 14, 15]]
 | 304, 3 => [[0, 1, 2, 3, 4, 5, 6, 7, 8, 9, 10, 11, 12, 13, 14, 15, 16, 17, 18, 19, 20, 21, 22, 23, 24, 25, 26, 27, 28]]
 | 304, 5 => [[0, 1, 2, 3, 4, 5, 6, 7]]
 | 304, 8 => [[0, 1, 2, 3, 4, 5, 6, 7, 8, 9, 10, 11, 12, 13, 14, 15, 16, 17, 18, 19, 20, 21]]
 | 304, 9 => [[0, 1, 2, 3, 4, 5, 6, 8, 9, 10, 7, 11, 12, 13]]
 | 304, 11 => [[0, 1, 2, 3, 4, 5, 6, 7, 8, 9, 10, 11, 12, 13, 14, 15, 16, 17, 18, 19, 20, 21, 22]]
 | 305, 2 => [[0, 1, 2, 3, 4, 5, 6, 7, 8, 9, 10, 11, 12, 13, 14, 15, 16, 17, 18, 19, 20, 21, 22, 23, 24, 25, 26, 27, 28, 29, 30]]
 | 305, 7 => [[0, 1, 2, 3, 4, 5, 6, 7, 8, 9, 10, 11, 12, 13, 14, 15, 16, 17, 18, 19, 20, 21], [0, 1, 2, 3, 4, 5, 6, 7, 8, 9, 10, 11, 12, 13, 14, 15, 16, 17, 18, 19, 20, 21], [0, 1, 2, 3, 4, 5, 6, 7, 8, 9, 10, 11, 12, 13, 14, 15, 16, 17, 18, 20, 19, 21]]
 | 305, 9 => [[0, 1, 2, 3, 4, 5, 6, 7, 8, 9, 10, 11, 12, 13, 14, 15, 16, 17], [0, 1, 2, 3, 4, 5, 6, 7, 8, 9, 10, 11, 12, 13, 14, 15, 16, 17], [0, 1, 2, 3, 4, 5, 6, 7, 8, 9, 10, 11, 12, 13, 15, 16, 14, 17]]
 | 305, 14 => [[0, 1, 2, 3, 5, 6, 7, 8, 9, 10, 4, 11, 12, 13]]
 | 305, 15 => [[0, 1, 2, 3, 4]]
 | 309, 1 => [[0, 1, 2, 3, 4, 5, 6, 7, 8, 10, 11, 13, 9, 12, 14, 15]]
 | 312, 16 => [[0, 1, 2, 3, 4, 5, 6, 7, 8, 9, 10, 11, 12]]
 | 312, 17 => [[0, 1, 3, 4, 5, 2, 6, 7]]
 | 325, 3 => [[0, 1, 2, 4, 5, 3, 6, 7, 8], [0, 1, 2, 3, 4, 5, 6, 7, 8], [0, 1, 2, 3, 6, 4, 5, 7, 8]]
 | 327, 5 => [[0, 1, 2, 3, 5, 4, 6, 7, 8, 9, 10, 11]]
 | 343, 8 => [[0, 1, 2, 3, 4, 5, 6, 7]]
 | 344, 0 => [[0, 1, 2, 3, 4, 5]]
 | _, _ => []
def pneeds : Nat → Nat → List Nat := fun f id => match f, id with
 | 3, 8 => [0, 1, 2, 3, 4, 5, 6, 7, 8, 9]
 | 7, 4 => [0, 1, 2, 3, 7, 10, 11, 12, 13, 14, 15, 20]
 | 13, 2 => [0, 1, 2, 3, 4, 5, 6, 7, 8, 9]
 | 14, 18 => [0, 1, 2, 3, 4, 5, 6, 7, 8, 9]
 | 16, 6 => [0, 1, 2, 3, 4, 5, 6, 7]
 | 21, 6 => [0, 1, 2, 3, 4, 5, 6, 7, 8, 9]
 | 25, 13 => [0, 1, 2, 3, 4, 5, 6, 7, 8, 9]
 | 34, 6 => [0, 1, 2, 3, 4, 5, 6, 7]
 | 35, 6 => [0, 1, 2, 3, 4, 5, 6, 7, 8, 9]
 | 36, 6 => [0, 1, 2, 3, 4, 5, 6, 7]
 | 59, 10 => [0, 1, 2, 3, 4, 5, 6, 7, 8, 9, 10]
 | 63, 6 => [0, 1, 2, 3, 4, 5, 6, 7]
 | 64, 6 => [0, 1, 2, 3, 4, 5, 6, 7]
 | 65, 6 => [0, 1, 2, 3, 4, 5, 6, 7]
 | 66, 6 => [0, 1, 2, 3, 4, 5, 6, 7]
 | 72, 4 => [0, 1, 2, 3, 4, 5, 6, 7, 8, 9, 10, 11, 12, 13, 14, 15, 16, 17, 18, 19, 20, 21, 22, 23, 24, 25, 26, 27, 28, 29, 30, 31, 32, 33, 34, 35, 36, 37, 38]
 | 78, 3 => [0, 1, 2, 3, 4, 5, 6, 7, 8, 9, 10, 11, 12, 13, 14, 15, 16, 17, 18, 19, 20, 21, 22, 23]
 | 96, 4 => [0, 1, 2, 3, 4, 5, 6, 7, 8]
 | 97, 3 => [0, 1, 2, 3, 4, 5, 6, 7, 8]
 | 98, 3 => [0, 1, 2, 3, 4, 5, 6, 7, 8, 9, 10, 11, 12, 13, 14, 15, 16, 17]
 | 105, 3 => [0, 1, 2, 3, 4, 5, 6, 7, 8, 9, 10, 11, 12, 13, 14, 15, 16, 17, 18]
 | 129, 17 => [3, 4, 5, 6, 7, 8, 9, 10, 11, 12]
 | 137, 4 => [4, 5, 6, 7, 8, 9, 10, 11, 12, 13]
 | 137, 6 => [0, 1, 2, 3, 4, 5, 6, 7, 8, 9, 10, 11, 12, 13]
 | 138, 10 => [0, 1, 2, 3, 4, 5, 6, 7, 8, 9, 10, 11, 12, 13, 14, 15]
 | 139, 10 => [0, 1, 2, 3, 4, 5, 6, 7, 8, 9, 10, 11, 12, 13, 14, 15]
 | 141, 3 => [0, 1, 2, 3, 4, 5, 6, 7, 8, 9, 10, 11]
 | 142, 5 => [4, 5, 6, 7, 8, 9, 10, 11, 12, 13]
 | 142, 11 => [0, 1, 2, 3, 4, 5, 6, 7, 8, 9, 10, 11, 12, 13]
 | 142, 16 => [0, 1, 2, 3, 4, 5, 6, 7, 8, 9]
 | 142, 17 => [0, 1, 2, 3, 4, 5, 6, 7, 8, 9, 10, 11, 12, 13]
 | 142, 22 => [0, 1, 2, 3, 4, 5, 6, 7, 8, 9]
 | 142, 23 => [0, 1, 2, 3, 4, 5, 6, 7, 8, 9, 10, 11, 12, 13]
 | 143, 1 => [0, 1, 2, 3, 4, 5, 6, 7, 8, 9, 10, 11]
 | 143, 3 => [4, 5, 6, 7, 8, 9, 10, 11, 12]
 | 143, 5 => [4, 5, 6, 7, 8, 9, 10, 11, 12]
 | 143, 8 => [0, 1, 2, 3, 4, 5, 6, 7, 8, 9, 10, 11]
 | 144, 1 => [0, 1, 2, 3, 4, 5, 6, 7, 8, 9, 10, 11]
 | 144, 3 => [4, 5, 6, 7, 8, 9, 10, 11, 12]
 | 144, 5 => [4, 5, 6, 7, 8, 9, 10, 11, 12]
 | 144, 8 => [0, 1, 2, 3, 4, 5, 6, 7, 8, 9, 10, 11]
 | 144, 10 => [0, 1, 2, 3, 4, 5, 6, 7, 8, 9, 10, 11]
 | 144, 13 => [4, 5, 6, 7, 8, 9, 10, 11, 12]
 | 144, 15 => [4, 5, 6, 7, 8, 9, 10, 11, 12]
 | 144, 18 => [0, 1, 2, 3, 4, 5, 6, 7, 8, 9, 10, 11]
 | 144, 21 => [0, 1, 2, 3, 4, 5, 6, 7, 8, 9, 10, 11]
 | 148, 17 => [3, 4, 5, 6, 7, 8, 9, 10, 11]
 | 149, 3 => [5, 6, 7, 8, 9, 10, 11, 12, 13, 14, 15, 16, 17, 18]
 | 149, 5 => [0, 1, 2, 3, 4, 5, 6, 7, 8, 9, 10, 11, 12]
 | 149, 6 => [0, 1, 2, 3, 4, 5, 6, 7, 8, 9, 10, 11, 12, 13, 14, 15, 16, 17, 18, 19]
 | 151, 1 => [0, 1, 2, 3, 4, 5, 6]
 | 151, 2 => [0, 1, 2, 3, 4, 5, 6]
 | 151, 3 => [0, 1, 2, 3, 4, 5, 6]
 | 154, 4 => [4, 5, 6, 7, 8, 9, 10, 11, 12]
 | 154, 6 => [0, 1, 2, 3, 4, 5, 6, 7, 8, 9, 10, 11, 12, 13]
 | 155, 10 => [0, 1, 2, 3, 4, 5, 6, 7, 8, 9, 10, 11, 12, 13, 14, 15]
 | 156, 10 => [0, 1, 2, 3, 4, 5, 6, 7, 8, 9, 10, 11, 12, 13, 14, 15]
 | 158, 3 => [0, 1, 2, 3, 4, 5, 6, 7, 8, 9, 10, 11]
 | 159, 5 => [4, 5, 6, 7, 8, 9, 10, 11, 12]
 | 159, 11 => [0, 1, 2, 3, 4, 5, 6, 7, 8, 9, 10, 11, 12, 13]
 | 159, 16 => [0, 1, 2, 3, 4, 5, 6, 7, 8]
 | 159, 17 => [0, 1, 2, 3, 4, 5, 6, 7, 8, 9, 10, 11, 12, 13]
 | 159, 22 => [0, 1, 2, 3, 4, 5, 6, 7, 8]
 | 159, 23 => [0, 1, 2, 3, 4, 5, 6, 7, 8, 9, 10, 11, 12, 13]
 | 161, 1 => [0, 1, 2, 3, 4, 5, 6, 7, 8, 9, 10, 11]
 | 161, 3 => [4, 5, 6, 7, 8, 9, 10, 11]
 | 161, 5 => [4, 5, 6, 7, 8, 9, 10, 11]
 | 161, 8 => [0, 1, 2, 3, 4, 5, 6, 7, 8, 9, 10, 11]
 | 162, 1 => [0, 1, 2, 3, 4, 5, 6, 7, 8, 9, 10, 11]
 | 162, 3 => [4, 5, 6, 7, 8, 9, 10, 11]
 | 162, 5 => [4, 5, 6, 7, 8, 9, 10, 11]
 | 162, 8 => [0, 1, 2, 3, 4, 5, 6, 7, 8, 9, 10, 11]
 | 162, 10 => [0, 1, 2, 3, 4, 5, 6, 7, 8, 9, 10, 11]
 | 162, 13 => [4, 5, 6, 7, 8, 9, 10, 11]
 | 162, 15 => [4, 5, 6, 7, 8, 9, 10, 11]
 | 162, 18 => [0, 1, 2, 3, 4, 5, 6, 7, 8, 9, 10, 11]
 | 162, 21 => [0, 1, 2, 3, 4, 5, 6, 7, 8, 9, 10, 11]
 | 163, 1 => [0, 1, 2, 3, 4, 5, 6, 7, 8]
 | 164, 3 => [5, 6, 7, 8, 9, 10, 11, 12, 13, 14, 15, 16, 17]
 | 164, 5 => [0, 1, 2, 3, 4, 5, 6, 7, 8, 9, 10, 11]
 | 164, 6 => [0, 1, 2, 3, 4, 5, 6, 7, 8, 9, 10, 11, 12, 13, 14, 15, 16, 17, 18, 19]
 | 167, 1 => [0, 1, 2, 3, 4, 5, 6, 7]
 | 192, 9 => [0, 1, 2, 3, 4, 5, 6, 7, 8, 9, 10, 11, 12, 13, 14, 15, 16, 17, 18, 19, 20, 21]
 | 195, 6 => [0, 1, 2, 3, 4, 5, 6, 7, 8, 9, 10, 11, 12, 13, 14, 15]
 | 195, 9 => [0, 1, 2, 3, 4, 5, 6, 7, 8, 9, 10, 11, 12, 13, 14, 15]
 | 195, 10 => [3, 6, 7, 8]
 | 195, 12 => [0, 1, 2, 3, 4, 5, 6, 7, 8, 9, 10, 11, 12, 13, 14, 15, 16]
 | 197, 4 => [0, 1, 2, 3, 4, 5, 6, 7, 8, 9, 10, 11, 12, 13, 14, 15]
 | 204, 9 => [3, 6, 7, 8]
 | 209, 7 => [0, 1, 2, 3, 4, 5, 6, 7, 8, 9, 10, 11, 12, 13]
 | 209, 9 => [0, 7]
 | 209, 10 => [0, 1, 2, 3, 4, 5, 6, 7, 8, 9, 10, 11, 12, 13, 14]
 | 211, 11 => [0, 11]
 | 213, 18 => [3, 4, 5, 6, 7, 8, 9, 10, 11, 12, 13, 16, 17]
 | 214, 5 => [0, 11]
 | 219, 5 => [0, 1, 2, 3, 4, 5, 6, 7, 8]
 | 224, 3 => [3, 4, 5, 6]
 | 224, 5 => [3, 4, 5, 6]
 | 224, 7 => [3, 4]
 | 224, 1 => [3, 4, 5]
 | 241, 0 => [3, 4]
 | 242, 1 => [3, 4]
 | 242, 2 => [3, 4, 5]
 | 244, 8 => [0, 1, 2, 3, 4, 5, 6, 7, 8]
 | 244, 10 => [0, 1, 2, 3, 4, 5, 6, 7, 8, 9]
 | 247, 1 => [0, 10]
 | 251, 7 => [0, 7]
 | 251, 8 => [0, 1, 2, 3, 4, 5, 6, 7, 8, 9, 10, 11, 12, 13, 14, 15, 16, 17, 18, 19]
 | 252, 5 => [0, 1, 2, 3, 4, 5, 9, 12, 15, 16, 18]
 | 252, 7 => [0, 1, 2, 3, 4, 5, 6, 7, 8, 9, 10, 11, 12, 13, 14, 15, 16, 17, 18, 19]
 | 252, 12 => [3, 6, 9, 10, 11, 12]
 | 252, 13 => [0, 1, 3, 4, 5]
 | 252, 15 => [3, 6, 9, 10, 11, 12, 13, 14]
 | 252, 36 => [0, 1, 2, 3, 4, 5, 6, 7, 8, 9, 10, 11, 12, 13, 14, 15, 16, 17, 18, 19]
 | 254, 3 => [3, 4, 5]
 | 254, 6 => [3, 4, 5]
 | 254, 8 => [3, 4]
 | 264, 1 => [3, 6, 10, 11]
 | 269, 1 => [0, 9]
 | 273, 2 => [0, 1, 2, 3, 4, 5, 6, 7, 8, 9, 10]
 | 278, 16 => [3, 6, 10, 11, 12]
 | 278, 19 => [3, 6, 10, 11, 12]
 | 281, 5 => [0, 1, 2, 3, 4, 5, 6, 7, 8, 9, 10]
 | 283, 6 => [0, 1, 2, 3, 4, 5, 6, 7, 8, 9, 10, 11, 12, 13, 14, 15]
 | 296, 3 => [0, 4, 5, 6, 7]
 | 297, 3 => [0, 1, 2, 3, 4, 5, 6, 7, 8, 9, 10]
 | 300, 1 => [0, 1, 2, 3, 4, 5, 6, 7, 8, 9, 10, 11, 12, 13, 16, 17]
 | 303, 3 => [3, 4, 5, 6, 7, 8, 9, 10, 11, 12, 13, 14, 15, 16, 17, 23, 28, 31, 38]
 | 303, 5 => [0, 1, 2, 3, 4, 5, 6, 7, 8, 9, 10, 11, 12, 13, 18]
 | 303, 9 => [2, 3, 4, 7, 8, 9, 11, 12]
 | 303, 11 => [0, 1, 2, 3, 4, 5, 6, 7, 8, 9, 10, 11, 12, 13, 14, 15, 16, 17, 18, 19]
 | 303, 13 => [0, 1, 2, 3, 4, 5, 6, 7, 8, 9, 10, 11, 12, 13, 14, 15]
 | 303, 16 => [0, 1, 2, 3, 4, 5, 6, 7, 8, 9, 10, 11, 12, 13, 14]
 | 304, 3 => [7, 8, 9, 10, 11, 12, 13, 14, 15, 16, 17, 18, 19, 20, 21, 22, 23, 24, 25, 26]
 | 304, 5 => [0, 1, 2, 3, 4, 5]
 | 304, 8 => [0, 1, 2, 3, 4, 5, 6, 7, 8, 9, 10, 11, 12, 13, 14, 15, 16, 17, 18, 19, 20]
 | 304, 9 => [0, 3, 4, 5, 8, 9, 10]
 | 304, 11 => [0, 1, 2, 3, 4, 5, 6, 7, 8, 9, 10, 11, 12, 13, 14, 15, 16, 17, 18, 19, 20, 21]
 | 305, 2 => [5, 9, 10, 11, 12, 13, 14, 15, 16, 17, 18, 19, 20, 21, 22, 23, 24, 25, 26, 27, 28]
 | 305, 7 => [0, 1, 2, 3, 4, 5, 6, 7, 8, 9, 10, 11, 12, 13, 14, 15]
 | 305, 9 => [3, 6, 9, 10, 15]
 | 305, 14 => [0, 1, 2, 3, 4, 7, 8, 9]
 | 305, 15 => [0, 3]
 | 312, 16 => [3, 6, 9, 10]
 | 312, 17 => [0, 6]
 | 327, 5 => [0, 8]
 | _, _ => []
def pwrs : Nat → Nat → List Nat := fun f id => match f, id with
 | 3, 8 => [39, 40, 41, 42, 43, 44, 45, 46, 47, 48, 49, 50]
 | 7, 4 => [13, 14, 15, 16, 17, 18, 19, 20, 21, 22, 23, 24, 25, 26, 27, 28, 29, 30, 31, 32, 33, 34, 35, 36, 37, 38, 39, 40, 41, 2]
 | 8, 3 => [68, 69, 70, 71, 72, 73, 74, 75, 76, 77, 78, 79, 80, 81, 82, 4]
 | 12, 1 => [6, 7, 8, 9, 5, 10, 11, 3, 4]
 | 13, 2 => [7, 8, 9, 10, 11, 12, 13, 14, 4, 5, 6]
 | 14, 18 => [54, 4, 55, 56, 57, 58, 59, 60, 61, 62, 63]
 | 16, 6 => [17, 18, 19, 20, 21, 22, 23, 24, 25, 26]
 | 21, 6 => [20, 21, 22, 23, 24, 25, 26, 27, 28, 29, 30]
 | 25, 13 => [50, 4, 51, 52, 53, 54, 55, 56, 57, 58, 59]
 | 34, 6 => [17, 18, 19, 20, 21, 22, 23, 24, 25]
 | 35, 6 => [17, 18, 19, 20, 21, 22, 23, 24, 25, 26, 27]
 | 36, 6 => [17, 18, 19, 20, 21, 22, 23, 24, 25]
 | 38, 4 => [13, 14, 15, 16, 17, 18, 19, 20, 21, 22, 5]
 | 59, 0 => [12, 13, 3, 4]
 | 59, 8 => [32, 33, 34, 35, 36, 37, 38, 39, 40]
 | 59, 10 => [42, 43, 44, 45, 46, 47, 48, 49, 50, 51, 52, 53, 54]
 | 59, 12 => [58, 59, 60, 61, 62, 63, 9]
 | 59, 14 => [68, 69, 70, 71, 72, 73, 74, 75]
 | 63, 6 => [16, 17, 18, 19, 20, 21, 22, 23, 24]
 | 64, 6 => [16, 17, 18, 19, 20, 21, 22, 23, 24]
 | 65, 6 => [16, 17, 18, 19, 20, 21, 22, 23, 24]
 | 66, 6 => [16, 17, 18, 19, 20, 21, 22, 23, 24]
 | 67, 5 => [26, 27, 28, 29, 30, 31, 32, 33, 34, 35, 36, 2, 3]
 | 72, 4 => [12, 13, 14, 15, 16, 17, 18, 19, 20, 21, 22, 23, 24, 25, 26, 27, 28, 29, 30, 31, 32, 33, 34, 35, 36, 37, 38, 39, 40, 41, 42, 43, 44, 45, 46, 47, 48, 49, 50, 51, 52, 53, 54, 55, 56]
 | 78, 3 => [5, 6, 7, 8, 9, 10, 11, 12, 13, 14, 15, 16, 17, 18, 19, 20, 21, 22, 23, 24, 25, 26, 27, 28, 29, 30, 2]
 | 81, 3 => [13, 14, 15, 16, 17, 18, 19]
 | 96, 4 => [9, 10, 11, 12, 13, 14, 15, 16, 17, 18, 19, 20]
 | 97, 3 => [6, 7, 8, 9, 10, 11, 12, 13, 14, 15, 16, 2]
 | 98, 3 => [5, 6, 7, 8, 9, 10, 11, 12, 13, 14, 15, 16, 17, 18, 19, 20, 21, 22, 23, 24, 2]
 | 105, 3 => [5, 6, 7, 8, 9, 10, 11, 12, 13, 14, 15, 16, 17, 18, 19, 20, 21, 22, 23, 24, 25, 2]
 | 129, 17 => [81, 82, 83, 84, 85, 86, 87, 88, 89, 90, 91, 92, 93, 94, 95, 96, 97]
 | 137, 4 => [18, 19, 20, 21, 22, 23, 24, 25, 26, 27, 28, 29, 30, 31, 32, 33, 34]
 | 137, 6 => [37, 38, 39, 40, 41, 42, 43, 44, 45, 46, 47, 48, 49, 50, 51, 52]
 | 138, 10 => [36, 37, 38, 39, 40, 41, 42, 43, 44, 45, 46, 47, 48, 49, 50, 51, 52, 53]
 | 139, 10 => [49, 50, 51, 52, 53, 54, 55, 56, 57, 58, 59, 60, 61, 62, 63, 64, 65, 66]
 | 141, 3 => [16, 17, 18, 19, 20, 21, 22, 23, 24, 25, 26, 27, 28, 29]
 | 142, 5 => [19, 20, 21, 22, 23, 24, 25, 26, 27, 28, 29, 30, 31, 32, 33, 34, 35, 36]
 | 142, 11 => [46, 47, 48, 49, 50, 51, 52, 53, 54, 55, 56, 57, 58, 59, 60, 61]
 | 142, 16 => [72, 73, 74, 75, 76, 77, 78, 79, 80, 81, 82, 83, 84]
 | 142, 17 => [85, 86, 87, 88, 89, 90, 91, 92, 93, 94, 95, 96, 97, 98, 99, 100]
 | 142, 22 => [112, 113, 114, 115, 116, 117, 118, 119, 120, 121, 122, 123, 124]
 | 142, 23 => [125, 126, 127, 128, 129, 130, 131, 132, 133, 134, 135, 136, 137, 138, 139, 140]
 | 143, 1 => [13, 14, 15, 16, 17, 18, 19, 20, 21, 22, 23, 24, 25, 26]
 | 143, 3 => [31, 32, 33, 34, 35, 36, 37, 38, 39, 40, 41, 42, 43, 44, 45, 46, 47]
 | 143, 5 => [50, 51, 52, 53, 54, 55, 56, 57, 58, 59, 60, 61, 62, 63, 64, 65]
 | 143, 8 => [71, 72, 73, 74, 75, 76, 77, 78, 79, 80, 81, 82, 83, 84]
 | 144, 1 => [14, 15, 16, 17, 18, 19, 20, 21, 22, 23, 24, 25, 26, 27]
 | 144, 3 => [32, 33, 34, 35, 36, 37, 38, 39, 40, 41, 42, 43, 44, 45, 46, 47]
 | 144, 5 => [50, 51, 52, 53, 54, 55, 56, 57, 58, 59, 60, 61, 62, 63, 64, 65, 66]
 | 144, 8 => [72, 73, 74, 75, 76, 77, 78, 79, 80, 81, 82, 83, 84, 85]
 | 144, 10 => [87, 88, 89, 90, 91, 92, 93, 94, 95, 96, 97, 98, 99, 100]
 | 144, 13 => [105, 106, 107, 108, 109, 110, 111, 112, 113, 114, 115, 116, 117, 118, 119, 120]
 | 144, 15 => [123, 124, 125, 126, 127, 128, 129, 130, 131, 132, 133, 134, 135, 136, 137, 138, 139]
 | 144, 18 => [145, 146, 147, 148, 149, 150, 151, 152, 153, 154, 155, 156, 157, 158]
 | 144, 21 => [163, 164, 165, 166, 167, 168, 169, 170, 171, 172, 173, 174, 175, 176]
 | 148, 17 => [73, 74, 75, 76, 77, 78, 79, 80, 81, 82, 83, 84, 85, 86, 87]
 | 149, 3 => [19, 20, 21, 22, 23, 24, 25, 26, 27, 28, 29, 30, 31, 32, 33, 34, 35, 36, 37, 38, 39, 40]
 | 149, 5 => [43, 44, 45, 46, 47, 48, 49, 50, 51, 52, 53, 54, 55, 56, 57, 58]
 | 149, 6 => [59, 60, 61, 62, 63, 64, 65, 66, 67, 68, 69, 70, 71, 72, 73, 74, 75, 76, 77, 78, 79, 80]
 | 151, 1 => [3, 4, 5, 6, 7, 8, 9, 10, 11]
 | 151, 2 => [12, 13, 14, 15, 16, 17, 18, 19, 20]
 | 151, 3 => [21, 22, 23, 24, 25, 26, 27, 28, 29]
 | 154, 4 => [16, 17, 18, 19, 20, 21, 22, 23, 24, 25, 26, 27, 28, 29, 30]
 | 154, 6 => [33, 34, 35, 36, 37, 38, 39, 40, 41, 42, 43, 44, 45, 46, 47, 48]
 | 155, 10 => [33, 34, 35, 36, 37, 38, 39, 40, 41, 42, 43, 44, 45, 46, 47, 48, 49, 50]
 | 156, 10 => [47, 48, 49, 50, 51, 52, 53, 54, 55, 56, 57, 58, 59, 60, 61, 62, 63, 64]
 | 158, 3 => [14, 15, 16, 17, 18, 19, 20, 21, 22, 23, 24, 25, 26, 27]
 | 159, 5 => [17, 18, 19, 20, 21, 22, 23, 24, 25, 26, 27, 28, 29, 30, 31, 32]
 | 159, 11 => [42, 43, 44, 45, 46, 47, 48, 49, 50, 51, 52, 53, 54, 55, 56, 57]
 | 159, 16 => [68, 69, 70, 71, 72, 73, 74, 75, 76, 77, 78]
 | 159, 17 => [79, 80, 81, 82, 83, 84, 85, 86, 87, 88, 89, 90, 91, 92, 93, 94]
 | 159, 22 => [106, 107, 108, 109, 110, 111, 112, 113, 114, 115, 116]
 | 159, 23 => [117, 118, 119, 120, 121, 122, 123, 124, 125, 126, 127, 128, 129, 130, 131, 132]
 | 161, 1 => [11, 12, 13, 14, 15, 16, 17, 18, 19, 20, 21, 22, 23, 24]
 | 161, 3 => [29, 30, 31, 32, 33, 34, 35, 36, 37, 38, 39, 40, 41, 42, 43]
 | 161, 5 => [46, 47, 48, 49, 50, 51, 52, 53, 54, 55, 56, 57, 58, 59]
 | 161, 8 => [65, 66, 67, 68, 69, 70, 71, 72, 73, 74, 75, 76, 77, 78]
 | 162, 1 => [12, 13, 14, 15, 16, 17, 18, 19, 20, 21, 22, 23, 24, 25]
 | 162, 3 => [30, 31, 32, 33, 34, 35, 36, 37, 38, 39, 40, 41, 42, 43]
 | 162, 5 => [46, 47, 48, 49, 50, 51, 52, 53, 54, 55, 56, 57, 58, 59, 60]
 | 162, 8 => [66, 67, 68, 69, 70, 71, 72, 73, 74, 75, 76, 77, 78, 79]
 | 162, 10 => [81, 82, 83, 84, 85, 86, 87, 88, 89, 90, 91, 92, 93, 94]
 | 162, 13 => [99, 100, 101, 102, 103, 104, 105, 106, 107, 108, 109, 110, 111, 112]
 | 162, 15 => [115, 116, 117, 118, 119, 120, 121, 122, 123, 124, 125, 126, 127, 128, 129]
 | 162, 18 => [135, 136, 137, 138, 139, 140, 141, 142, 143, 144, 145, 146, 147, 148]
 | 162, 21 => [153, 154, 155, 156, 157, 158, 159, 160, 161, 162, 163, 164, 165, 166]
 | 163, 1 => [12, 13, 14, 15, 16, 17, 18, 19, 20, 21, 22]
 | 164, 3 => [17, 18, 19, 20, 21, 22, 23, 24, 25, 26, 27, 28, 29, 30, 31, 32, 33, 34, 35, 36]
 | 164, 5 => [39, 40, 41, 42, 43, 44, 45, 46, 47, 48, 49, 50, 51, 52]
 | 164, 6 => [53, 54, 55, 56, 57, 58, 59, 60, 61, 62, 63, 64, 65, 66, 67, 68, 69, 70, 71, 72, 73, 74]
 | 167, 1 => [10, 11, 12, 13, 14, 15, 16, 17, 18]
 | 192, 9 => [47, 48, 49, 50, 51, 52, 53, 54, 55, 56, 57, 58, 59, 60, 61, 62, 63, 64, 65, 66, 67, 68, 69, 8]
 | 193, 1 => [6, 7, 8, 9, 10, 4, 5]
 | 195, 6 => [42, 43, 44, 45, 46, 47, 48, 49, 50, 51, 52, 53, 54, 55, 56, 57, 58, 41, 59, 60, 8, 9]
 | 195, 9 => [63, 64, 65, 66, 67, 68, 69, 70, 71, 72, 73, 74, 75, 76, 77, 78, 79, 62, 80, 81, 10, 11]
 | 195, 10 => [82, 83, 84, 85, 86, 87, 88, 89, 90, 91, 92]
 | 195, 12 => [93, 94, 95, 96, 97, 98, 99, 100, 101, 102, 103, 104, 105, 106, 107, 108, 109, 110]
 | 195, 15 => [127, 128, 129, 130, 131, 132, 133, 134, 135, 136, 137, 138, 139, 140, 141, 142, 143, 144, 145, 146]
 | 197, 4 => [22, 23, 24, 25, 26, 27, 28, 29, 30, 31, 32, 33, 34, 35, 36, 37, 38]
 | 203, 1 => [6, 7, 8, 9, 10, 11, 4, 5]
 | 204, 9 => [33, 34, 35, 36, 37, 38, 39, 40, 41, 42, 6]
 | 209, 7 => [40, 41, 42, 43, 44, 45, 46, 47, 48, 49, 50, 51, 52, 53, 54, 39, 55, 56, 5, 6]
 | 209, 9 => [68, 69, 70, 71, 72, 73, 74, 75, 76, 77, 78]
 | 209, 10 => [79, 80, 81, 82, 83, 84, 85, 86, 87, 88, 89, 90, 91, 92, 93, 94, 95]
 | 211, 11 => [41, 42, 43, 44, 45, 46, 47, 48, 49, 50, 51, 52, 53, 13]
 | 213, 18 => [54, 55, 56, 57, 58, 59, 61, 62, 63, 64, 65, 66, 67, 68, 69, 60, 70, 71]
 | 214, 5 => [20, 21, 22, 23, 24, 25, 26, 27, 28, 29, 30, 31, 32, 33]
 | 219, 5 => [20, 21, 22, 23, 24, 25, 26, 27, 28, 29, 6]
 | 222, 1 => [5, 6, 7, 8, 9, 10, 11, 12, 13, 14, 15, 16, 17, 18, 19, 20, 21, 22, 23, 24, 25, 26, 27, 28, 4]
 | 224, 3 => [16, 17, 18, 19, 20, 21, 22, 23]
 | 224, 5 => [28, 29, 30, 31, 32, 33, 34, 35]
 | 224, 7 => [39, 40, 41, 42, 43]
 | 224, 1 => [6, 7, 8, 9, 10, 11]
 | 232, 3 => [7, 8, 9, 10]
 | 241, 0 => [3, 4, 5, 6, 7, 8]
 | 242, 1 => [6, 7, 8, 9, 10]
 | 242, 2 => [11, 12, 13, 14, 15, 16]
 | 244, 8 => [23, 24, 25, 26, 27, 28, 29, 30, 31, 32]
 | 244, 10 => [33, 34, 35, 36, 37, 38, 39, 40, 41, 42]
 | 247, 1 => [6, 7, 8, 9, 10, 11, 12, 13, 14, 15, 16, 17, 18, 19]
 | 251, 7 => [10, 11, 12, 13, 14, 15, 16, 17, 18, 19, 20]
 | 251, 8 => [21, 22, 23, 24, 25, 26, 27, 28, 29, 30, 31, 32, 33, 34, 35, 36, 37, 38, 39, 40, 41, 42]
 | 251, 9 => [43, 44, 45, 46, 47, 48, 49, 50, 51, 52]
 | 252, 5 => [44, 45, 46, 47, 48, 49, 50, 51, 52, 53, 54, 55, 56, 57, 58, 59, 60, 61, 62, 63, 64, 65]
 | 252, 7 => [69, 70, 71, 72, 73, 74, 75, 76, 77, 78, 79, 80, 81, 82, 83, 84, 85, 86, 87, 88, 89, 90]
 | 252, 8 => [91, 92, 93, 94, 95, 96, 97, 98, 99, 100]
 | 252, 12 => [109, 110, 111, 112, 113, 114, 115, 116, 117, 118, 119, 120, 121, 122, 108, 123, 124, 8]
 | 252, 13 => [125, 126, 127, 128, 129, 130, 131, 132]
 | 252, 15 => [135, 136, 137, 138, 139, 140, 141, 142, 143, 144, 145, 146, 147, 148, 149, 150]
 | 252, 24 => [177, 178, 179, 180, 181, 176, 182, 183, 12, 13]
 | 252, 36 => [222, 223, 224, 225, 226, 227, 228, 229, 230, 231, 232, 233, 234, 235, 236, 237, 238, 239, 240, 241, 242, 243]
 | 254, 3 => [14, 15, 16, 17, 18, 19, 20, 13, 21, 22, 5, 6]
 | 254, 6 => [27, 28, 29, 30, 31, 32, 33, 26, 34, 35, 7, 8]
 | 254, 8 => [37, 38, 39, 40, 41, 42, 4]
 | 264, 1 => [3, 4, 5, 6, 7, 8, 9, 10, 11, 12, 13, 14, 15, 16, 2]
 | 269, 1 => [6, 7, 8, 9, 10, 11, 12, 13, 14, 15, 16, 17]
 | 273, 2 => [16, 17, 18, 19, 20, 21, 22, 23, 24, 25, 7, 8]
 | 275, 15 => [53, 54, 55, 56, 57, 58, 59, 60, 61]
 | 275, 25 => [72, 73, 74, 75, 76, 77, 78, 79, 80, 81, 82, 83]
 | 275, 28 => [87, 88, 89, 90, 91, 92, 93]
 | 275, 30 => [96, 97, 98, 99, 100, 101, 102, 103, 104, 105, 106]
 | 275, 33 => [112, 113, 114, 115, 116, 117, 118, 119, 120, 121, 122]
 | 275, 35 => [126, 127, 128, 129, 130, 131, 132, 133]
 | 275, 39 => [143, 144, 145, 146, 147, 148, 149]
 | 275, 41 => [152, 153, 154, 155, 156]
 | 278, 16 => [81, 82, 83, 84, 85, 86, 87, 88, 89, 90, 91, 92, 93, 8, 7]
 | 278, 19 => [107, 108, 109, 110, 111, 112, 113, 114, 115, 116, 117, 118, 119, 8, 7]
 | 281, 5 => [30, 31, 32, 33, 34, 35, 36, 37, 38, 39, 10, 11]
 | 281, 8 => [46, 47, 48, 49, 45, 50, 51, 13, 14]
 | 281, 10 => [53, 54, 55, 56, 57, 58, 59, 60, 61, 62]
 | 281, 13 => [69, 70, 71, 72, 73, 74, 75]
 | 281, 26 => [106, 107, 108, 109, 110, 111, 112]
 | 281, 27 => [113, 114, 115, 116, 117, 118, 119, 120]
 | 281, 29 => [126, 127, 128, 129, 130, 131, 132]
 | 283, 6 => [38, 39, 40, 41, 42, 43, 44, 45, 46, 47, 48, 49, 50, 51, 52, 8, 9]
 | 294, 11 => [22, 23, 24, 25, 26, 27, 28, 29, 30]
 | 296, 3 => [9, 10, 11, 12, 13, 14, 15, 16, 17, 18]
 | 297, 3 => [17, 18, 19, 20, 21, 22, 23, 24, 25, 26, 5, 6]
 | 300, 1 => [6, 7, 8, 9, 10, 11, 12, 13, 14, 15, 16, 17, 18, 19, 20, 21, 22, 23, 24]
 | 301, 2 => [18, 19, 20, 21, 22]
 | 302, 2 => [18, 19, 20, 21, 22]
 | 303, 3 => [33, 34, 35, 36, 37, 38, 39, 40, 41, 42, 43, 44, 45, 46, 47, 48, 49, 50, 51, 52, 53, 54, 55, 56, 57, 58, 59, 60, 61, 62, 63, 64, 65, 66, 67, 68, 69, 70, 71, 72, 73]
 | 303, 5 => [77, 78, 79, 80, 81, 82, 83, 84, 85, 86, 87, 88, 89, 90, 91, 76, 92, 93, 8, 9]
 | 303, 9 => [101, 102, 103, 104, 105, 106, 107, 108, 109, 110, 111, 12, 13]
 | 303, 11 => [116, 117, 118, 119, 120, 121, 122, 123, 124, 125, 126, 127, 128, 129, 130, 131, 132, 133, 134, 135, 136]
 | 303, 13 => [143, 144, 145, 146, 147, 148, 149, 150, 151, 152, 153, 154, 155, 156, 157, 158, 159, 142, 160, 161, 14, 15]
 | 303, 16 => [171, 172, 173, 174, 175, 176, 177, 178, 179, 180, 181, 182, 183, 184, 185, 186]
 | 304, 3 => [34, 35, 36, 37, 38, 39, 40, 41, 42, 43, 44, 45, 46, 47, 48, 49, 50, 51, 52, 53, 54, 55, 56, 57, 58, 59, 60, 61, 62]
 | 304, 5 => [65, 66, 67, 68, 69, 70, 71, 11]
 | 304, 8 => [75, 76, 77, 78, 79, 80, 81, 82, 83, 84, 85, 86, 87, 88, 89, 90, 91, 92, 93, 94, 95, 96]
 | 304, 9 => [97, 98, 99, 100, 101, 102, 103, 104, 105, 106, 107, 108, 109, 110]
 | 304, 11 => [122, 123, 124, 125, 126, 127, 128, 129, 130, 131, 132, 133, 134, 135, 136, 137, 138, 139, 140, 141, 142, 143, 144]
 | 305, 2 => [21, 22, 23, 24, 25, 26, 27, 28, 29, 30, 31, 32, 33, 34, 35, 36, 37, 38, 39, 40, 41, 42, 43, 44, 45, 46, 47, 48, 49, 50, 51]
 | 305, 7 => [61, 62, 63, 64, 65, 66, 67, 68, 69, 70, 71, 72, 73, 74, 75, 76, 77, 60, 78, 79, 10, 11]
 | 305, 9 => [86, 87, 88, 89, 90, 91, 92, 93, 94, 95, 96, 97, 85, 98, 99, 12, 13]
 | 305, 14 => [108, 109, 110, 111, 112, 113, 114, 115, 116, 117, 118, 119, 120, 121]
 | 305, 15 => [122, 123, 124, 125, 126]
 | 309, 1 => [5, 6, 7, 8, 9, 10, 11, 12, 13, 14, 15, 16, 17, 18, 19, 4]
 | 312, 16 => [117, 118, 119, 120, 121, 122, 123, 124, 125, 126, 127, 128, 15]
 | 312, 17 => [129, 130, 131, 132, 133, 134, 135, 136]
 | 325, 3 => [9, 10, 11, 12, 13, 14]
 | 327, 5 => [18, 19, 20, 21, 22, 23, 24, 25, 26, 27, 28]
 | 343, 8 => [34, 35, 36, 37, 38, 39, 40]
 | 344, 0 => [4, 5, 6, 7, 8]
 | _, _ => []
def powns : Nat → Nat → List Nat := fun f id => match f, id with
 | 8, 3 => [0, 1, 3, 4, 8, 9]
 | 12, 1 => [2]
 | 38, 4 => [2, 6]
 | 59, 8 => [1]
 | 59, 12 => [3]
 | 59, 14 => [8]
 | 67, 5 => [0]
 | 81, 3 => [1, 3]
 | 195, 6 => [15]
 | 195, 9 => [15]
 | 195, 10 => [8]
 | 195, 12 => [16]
 | 195, 15 => [5, 7, 9, 11]
 | 211, 11 => [5]
 | 213, 18 => [5, 8, 10]
 | 222, 1 => [1, 5, 10, 15, 19]
 | 224, 3 => [5]
 | 224, 5 => [5]
 | 251, 8 => [18]
 | 251, 9 => [3]
 | 252, 7 => [18]
 | 252, 8 => [3]
 | 252, 12 => [12]
 | 252, 13 => [1, 5]
 | 252, 15 => [12, 14]
 | 252, 24 => [3]
 | 254, 3 => [5]
 | 254, 6 => [5]
 | 275, 15 => [2, 5]
 | 275, 25 => [2, 5, 8]
 | 275, 28 => [2, 4]
 | 275, 30 => [2, 6]
 | 275, 33 => [3, 7]
 | 275, 35 => [4]
 | 275, 39 => [1, 3]
 | 275, 41 => [1]
 | 281, 8 => [2]
 | 281, 10 => [1, 5]
 | 281, 13 => [1, 2]
 | 281, 26 => [1, 3]
 | 281, 27 => [1, 2, 4]
 | 281, 29 => [1, 3, 5, 7, 9]
 | 294, 11 => [2, 5]
 | 300, 1 => [16]
 | 301, 2 => [2]
 | 302, 2 => [2]
 | 309, 1 => [1, 3, 5, 7, 8, 11]
 | 312, 16 => [10]
 | 312, 17 => [3]
 | 325, 3 => [2, 5]
 | _, _ => []
def phps : Nat → Nat → List Nat := fun f id => match f, id with
 | 59, 14 => [4]
 | 195, 15 => [14, 17, 20]
 | 251, 9 => [7]
 | 252, 8 => [7]
 | 325, 3 => [6]
 | _, _ => []
def ppros : Nat → Nat → List Nat := fun f id => match f, id with
 | 59, 1 => [3]
 | 59, 2 => [3]
 | 59, 13 => [3]
 | 59, 14 => [3]
 | 303, 11 => [8]
 | 303, 14 => [8]
 | 303, 16 => [8]
 | 305, 14 => [12]
 | _, _ => []
def pfans : Nat → Nat → Option DT := fun f id => match f, id with
 | 209, 9 => some (.node 5 6 (.leaf [0, 1, 2, 3, 4, 5, 6, 7, 8, 9, 10, 11]) (.leaf [0, 1, 2, 3, 4, 6, 5, 7, 8, 9, 10, 11]))
 | 214, 5 => some (.node 4 6 (.leaf [0, 1, 2, 3, 5, 8, 4, 6, 7, 9, 10, 11, 12, 13, 14]) (.leaf [0, 1, 2, 3, 5, 8, 6, 7, 9, 10, 4, 11, 12, 13, 14]))
 | 251, 7 => some (.node 5 6 (.leaf [0, 1, 2, 3, 4, 5, 6, 7, 8, 9, 10, 11]) (.leaf [0, 1, 2, 3, 4, 6, 5, 7, 8, 9, 10, 11]))
 | 281, 29 => some (.node 3 5 (.leaf [0, 1, 2, 3, 4, 5, 6, 7, 8, 9]) (.node 3 7 (.leaf [0, 1, 2, 4, 5, 3, 6, 7, 8, 9]) (.leaf [0, 1, 2, 4, 5, 6, 7, 3, 8, 9])))
 | 327, 5 => some (.node 4 6 (.leaf [0, 1, 2, 3, 5, 4, 6, 7, 8, 9, 10, 11]) (.leaf [0, 1, 2, 3, 5, 6, 7, 4, 8, 9, 10, 11]))
 | _, _ => none
def pneedfs : Nat → Nat → List Nat × List Nat := fun f id => match f, id with
 | 8, 3 => ([0, 1, 2, 3, 4, 8, 9], [2, 3])
 | 38, 4 => ([0, 1, 2, 3, 4, 5, 6], [3])
 | 59, 0 => ([0, 1, 2], [1])
 | 59, 14 => ([0, 1, 2, 3, 4, 5, 6, 7, 8], [3])
 | 67, 5 => ([0, 1, 2, 3, 4, 5, 6], [1])
 | 81, 3 => ([0, 1, 2, 3, 4], [4, 1])
 | 193, 1 => ([0, 1, 2, 3, 4], [1, 2])
 | 203, 1 => ([0, 1, 2, 3, 4, 5], [1, 2])
 | 204, 9 => ([0, 1, 2, 3, 4, 5, 6, 7, 8], [7])
 | 224, 7 => ([0, 1, 2, 3, 4], [4])
 | 224, 1 => ([0, 1, 2, 3, 4, 5], [4])
 | 232, 3 => ([0, 1, 2], [1])
 | 241, 0 => ([0, 1, 2, 3, 4], [0, 1])
 | 242, 1 => ([0, 1, 2, 3, 4], [1, 2])
 | 242, 2 => ([0, 1, 2, 3, 4, 5], [1, 2, 0])
 | 247, 1 => ([0, 1, 2, 3, 4, 5, 6, 7], [4])
 | 251, 7 => ([0, 1, 2, 3, 4, 5, 6, 7], [0])
 | 251, 8 => ([0, 1, 2, 3, 4, 5, 6, 7, 8, 9, 10, 11, 12, 13, 14, 15, 16, 17, 18, 19], [0])
 | 251, 9 => ([0, 1, 2, 3], [0])
 | 252, 13 => ([0, 1, 2, 3, 4, 5, 6], [9])
 | 254, 8 => ([0, 1, 2, 3, 4], [3])
 | 264, 1 => ([0, 6, 7, 8, 9, 10, 11], [0, 1])
 | 269, 1 => ([0, 1, 2, 3, 4, 5, 6], [4])
 | 275, 28 => ([0, 1, 2, 3, 4], [9])
 | 275, 39 => ([0, 1, 2, 3, 4, 5], [9])
 | 275, 41 => ([0, 1, 2, 3], [9])
 | 281, 10 => ([0, 1, 2, 3, 4, 5, 8], [8])
 | 281, 13 => ([0, 1, 2], [8])
 | 281, 27 => ([0, 1, 2, 3, 4, 6], [3])
 | 296, 3 => ([0, 1, 2, 3, 4, 5, 6, 7, 8], [1])
 | 300, 1 => ([0, 1, 2, 3, 4, 5, 6, 7, 8, 9, 10, 11, 12, 13, 14, 15, 16], [5])
 | 301, 2 => ([0, 1, 2], [5])
 | 302, 2 => ([0, 1, 2], [5])
 | 303, 3 => ([3, 4, 5, 6, 7, 8, 9, 10, 11, 12, 13, 14, 15, 16, 17, 21, 28, 29, 30, 31, 36], [6, 3])
 | 303, 5 => ([0, 1, 2, 3, 4, 5, 6, 7, 8, 9, 10, 11, 12, 13, 18], [3, 6])
 | 303, 9 => ([0, 1, 2, 3, 4, 5, 6, 7, 8, 9, 11, 12], [6, 10])
 | 303, 11 => ([0, 1, 2, 3, 4, 5, 6, 7, 8, 9, 10, 11, 12, 13, 14, 15, 16, 17, 18, 19], [3, 6])
 | 303, 13 => ([0, 1, 2, 3, 4, 5, 6, 7, 8, 9, 10, 11, 12, 13, 14, 15], [3, 6])
 | 303, 16 => ([0, 1, 2, 3, 4, 5, 6, 7, 8, 9, 10, 11, 12, 13, 14], [3, 6, 8])
 | 304, 3 => ([7, 8, 9, 10, 11, 12, 13, 14, 15, 16, 17, 18, 19, 20, 21, 22, 23, 24, 25, 26], [6, 3])
 | 304, 5 => ([0, 1, 2, 3, 4, 5], [8, 6])
 | 304, 8 => ([0, 1, 2, 3, 4, 5, 6, 7, 8, 9, 10, 11, 12, 13, 14, 15, 16, 17, 18, 19, 20], [3, 6, 8])
 | 304, 9 => ([0, 1, 2, 3, 4, 5, 6, 7, 8, 9, 10, 11, 12], [3, 6, 9])
 | 304, 11 => ([0, 1, 2, 3, 4, 5, 6, 7, 8, 9, 10, 11, 12, 13, 14, 15, 16, 17, 18, 19, 20, 21], [3])
 | 305, 2 => ([3, 9, 10, 11, 12, 13, 14, 15, 16, 17, 18, 19, 20, 21, 22, 23, 24, 25, 26, 27, 28], [6, 3])
 | 305, 7 => ([0, 1, 2, 3, 4, 5, 6, 7, 8, 9, 10, 11, 12, 13, 14, 15], [3, 6])
 | 305, 9 => ([0, 1, 2, 3, 4, 5, 6, 7, 8, 9, 10, 15], [3, 8])
 | 305, 14 => ([0, 1, 2, 3, 4, 5, 6, 7, 8, 9, 10, 11, 12], [3, 12, 6])
 | 305, 15 => ([0, 1, 2, 3], [3, 6])
 | 309, 1 => ([0, 1, 2, 3, 4, 5, 6, 7, 8, 10, 11, 13], [2])
 | 312, 16 => ([0, 1, 2, 3, 4, 5, 6, 7, 8, 9, 10], [14])
 | 312, 17 => ([0, 1, 2, 3, 5], [9])
 | 343, 8 => ([0, 1, 2, 3, 4, 5], [3])
 | 344, 0 => ([0, 1, 2, 3], [1, 2])
 | _, _ => ([], [])
def ppol : Pol := { take := fun f t => (ptakes f).contains t, loc := fun f t => (plocs f).contains t, keep := pkeeps, arr := fun f t => if (parr3s f).contains t then 3 else if parrs.contains f then 2 else 1, free := fun f => pfrees.contains f, orders := porders, need := pneeds, needF := pneedfs, wr := pwrs, own := powns, hp := phps, pro := ppros, fan := pfans, clone := fun f => pclones.contains f }
theorem pclone (f : FuncId) : ppol.clone f = ([124] : List Nat).contains f := (rfl)
theorem ptake5 (t : Nat) : ppol.take 5 t = ([] : List Nat).contains t := (rfl)
theorem ploc5 (t : Nat) : ppol.loc 5 t = ([] : List Nat).contains t := (rfl)
theorem pkeep5 : ppol.keep 5 = none := (rfl)
theorem parr5 (t : Nat) : ppol.arr 5 t = 1 := (rfl)
theorem ppro5 (id : Nat) : ppol.pro 5 id = [] := (rfl)
theorem pfree5 : ppol.free 5 = false := (rfl)
theorem ptake6 (t : Nat) : ppol.take 6 t = ([] : List Nat).contains t := (rfl)
theorem ploc6 (t : Nat) : ppol.loc 6 t = ([1] : List Nat).contains t := (rfl)
theorem pkeep6 : ppol.keep 6 = none := (rfl)
theorem parr6 (t : Nat) : ppol.arr 6 t = 1 := (rfl)
theorem ppro6 (id : Nat) : ppol.pro 6 id = [] := (rfl)
theorem pfree6 : ppol.free 6 = false := (rfl)
theorem ptake7 (t : Nat) : ppol.take 7 t = ([] : List Nat).contains t := (rfl)
theorem ploc7 (t : Nat) : ppol.loc 7 t = ([] : List Nat).contains t := (rfl)
theorem pkeep7 : ppol.keep 7 = none := (rfl)
theorem parr7 (t : Nat) : ppol.arr 7 t = 1 := (rfl)
theorem ppro7 (id : Nat) : ppol.pro 7 id = [] := (rfl)
theorem pfree7 : ppol.free 7 = false := (rfl)
theorem porder7_4 : ppol.orders 7 4 = [[0, 1, 2, 3, 4, 5, 6, 7, 8, 9, 10, 11, 12, 13, 14, 15, 16, 17, 18, 19, 20, 21, 22, 23, 24, 25, 26, 27, 28, 29]] := (rfl)
theorem pneed7_4 : ppol.need 7 4 = [0, 1, 2, 3, 7, 10, 11, 12, 13, 14, 15, 20] := (rfl)
theorem pneedF7_4 : ppol.needF 7 4 = ([], []) := (rfl)
theorem pwr7_4 : ppol.wr 7 4 = [13, 14, 15, 16, 17, 18, 19, 20, 21, 22, 23, 24, 25, 26, 27, 28, 29, 30, 31, 32, 33, 34, 35, 36, 37, 38, 39, 40, 41, 2] := (rfl)
theorem pown7_4 : ppol.own 7 4 = [] := (rfl)
theorem php7_4 : ppol.hp 7 4 = [] := (rfl)
theorem pfan7_4 : ppol.fan 7 4 = none := (rfl)
theorem ptake9 (t : Nat) : ppol.take 9 t = ([] : List Nat).contains t := (rfl)
theorem ploc9 (t : Nat) : ppol.loc 9 t = ([] : List Nat).contains t := (rfl)
theorem pkeep9 : ppol.keep 9 = some [true, false, false, true, true, true, false, false, false, false, false, false, false, false, false, false, false, false, false, false, false, false, false, false, false, false, false, false, false, false, false, false, false, false, false, false, false, false, false, false, false, false, false, false, false, false, false] := (rfl)
theorem parr9 (t : Nat) : ppol.arr 9 t = 1 := (rfl)
theorem ppro9 (id : Nat) : ppol.pro 9 id = [] := (rfl)
theorem pfree9 : ppol.free 9 = false := (rfl)
theorem ptake11 (t : Nat) : ppol.take 11 t = ([] : List Nat).contains t := (rfl)
theorem ploc11 (t : Nat) : ppol.loc 11 t = ([] : List Nat).contains t := (rfl)
theorem pkeep11 : ppol.keep 11 = none := (rfl)
theorem parr11 (t : Nat) : ppol.arr 11 t = 1 := (rfl)
theorem ppro11 (id : Nat) : ppol.pro 11 id = [] := (rfl)
theorem pfree11 : ppol.free 11 = false := (rfl)
theorem ptake12 (t : Nat) : ppol.take 12 t = ([] : List Nat).contains t := (rfl)
theorem ploc12 (t : Nat) : ppol.loc 12 t = ([1, 3] : List Nat).contains t := (rfl)
theorem pkeep12 : ppol.keep 12 = none := (rfl)
theorem parr12 (t : Nat) : ppol.arr 12 t = 1 := (rfl)
theorem ppro12 (id : Nat) : ppol.pro 12 id = [] := (rfl)
theorem pfree12 : ppol.free 12 = true := (rfl)
theorem porder12_1 : ppol.orders 12 1 = [[1, 2, 0, 3, 4, 5, 6, 7, 8, 9], [0, 1, 2, 3, 4, 5, 6, 7, 8, 9], [0, 1, 2, 3, 4, 5, 7, 8, 6, 9]] := (rfl)
theorem pneed12_1 : ppol.need 12 1 = [] := (rfl)
theorem pneedF12_1 : ppol.needF 12 1 = ([], []) := (rfl)
theorem pwr12_1 : ppol.wr 12 1 = [6, 7, 8, 9, 5, 10, 11, 3, 4] := (rfl)
theorem pown12_1 : ppol.own 12 1 = [2] := (rfl)
theorem php12_1 : ppol.hp 12 1 = [] := (rfl)
theorem pfan12_1 : ppol.fan 12 1 = none := (rfl)
theorem ptake13 (t : Nat) : ppol.take 13 t = ([] : List Nat).contains t := (rfl)
theorem ploc13 (t : Nat) : ppol.loc 13 t = ([1] : List Nat).contains t := (rfl)
theorem pkeep13 : ppol.keep 13 = none := (rfl)
theorem parr13 (t : Nat) : ppol.arr 13 t = 1 := (rfl)
theorem ppro13 (id : Nat) : ppol.pro 13 id = [] := (rfl)
theorem pfree13 : ppol.free 13 = false := (rfl)
theorem porder13_2 : ppol.orders 13 2 = [[0, 1, 2, 3, 4, 5, 6, 7, 8, 9, 10], [0, 1, 2, 3, 4, 5, 6, 7, 8, 9, 10], [0, 1, 2, 3, 4, 8, 9, 5, 6, 7, 10]] := (rfl)
theorem pneed13_2 : ppol.need 13 2 = [0, 1, 2, 3, 4, 5, 6, 7, 8, 9] := (rfl)
theorem pneedF13_2 : ppol.needF 13 2 = ([], []) := (rfl)
theorem pwr13_2 : ppol.wr 13 2 = [7, 8, 9, 10, 11, 12, 13, 14, 4, 5, 6] := (rfl)
theorem pown13_2 : ppol.own 13 2 = [] := (rfl)
theorem php13_2 : ppol.hp 13 2 = [] := (rfl)
theorem pfan13_2 : ppol.fan 13 2 = none := (rfl)
theorem ptake14 (t : Nat) : ppol.take 14 t = ([66, 54, 38, 26] : List Nat).contains t := (rfl)
theorem ploc14 (t : Nat) : ppol.loc 14 t = ([8, 9] : List Nat).contains t := (rfl)
theorem pkeep14 : ppol.keep 14 = some [false, false, false, false, true, true, true, false, true, true, false, false, true, true, true, false, false, false, false, false, false, false, false, false, false, false, false, false, false, false, false, false, false, false, true, true, false, false, false, false, false, false, false, false, false, false, false, false, false, false, false, false, false, false, false, false, false, false, false, false, false, false, false, false, false, false, false, false, false, false, false, false, false, false, false, false, false, false, false] := (rfl)
theorem parr14 (t : Nat) : ppol.arr 14 t = 1 := (rfl)
theorem ppro14 (id : Nat) : ppol.pro 14 id = [] := (rfl)
theorem pfree14 : ppol.free 14 = false := (rfl)
theorem porder14_18 : ppol.orders 14 18 = [[0, 1, 2, 3, 4, 5, 6, 7, 8, 9, 10]] := (rfl)
theorem pneed14_18 : ppol.need 14 18 = [0, 1, 2, 3, 4, 5, 6, 7, 8, 9] := (rfl)
theorem pneedF14_18 : ppol.needF 14 18 = ([], []) := (rfl)
theorem pwr14_18 : ppol.wr 14 18 = [54, 4, 55, 56, 57, 58, 59, 60, 61, 62, 63] := (rfl)
theorem pown14_18 : ppol.own 14 18 = [] := (rfl)
theorem php14_18 : ppol.hp 14 18 = [] := (rfl)
theorem pfan14_18 : ppol.fan 14 18 = none := (rfl)
theorem ptake15 (t : Nat) : ppol.take 15 t = ([18] : List Nat).contains t := (rfl)
theorem ploc15 (t : Nat) : ppol.loc 15 t = ([] : List Nat).contains t := (rfl)
theorem pkeep15 : ppol.keep 15 = some [true, false, false, false, true, true, false, false, false, false, false, false, false, false, false, false, false, false, false, false, false, false, false, false, false, false] := (rfl)
theorem parr15 (t : Nat) : ppol.arr 15 t = 1 := (rfl)
theorem ppro15 (id : Nat) : ppol.pro 15 id = [] := (rfl)
theorem pfree15 : ppol.free 15 = false := (rfl)
theorem ptake16 (t : Nat) : ppol.take 16 t = ([] : List Nat).contains t := (rfl)
theorem ploc16 (t : Nat) : ppol.loc 16 t = ([] : List Nat).contains t := (rfl)
theorem pkeep16 : ppol.keep 16 = some [true, true, false, false, false, true, false, false, false, false, false, false, false, false, false, false, false, false, false, false, false, false, false, false, false, false, false] := (rfl)
theorem parr16 (t : Nat) : ppol.arr 16 t = 1 := (rfl)
theorem ppro16 (id : Nat) : ppol.pro 16 id = [] := (rfl)
theorem pfree16 : ppol.free 16 = false := (rfl)
theorem porder16_6 : ppol.orders 16 6 = [[0, 1, 2, 3, 4, 5, 6, 7, 8, 9]] := (rfl)
theorem pneed16_6 : ppol.need 16 6 = [0, 1, 2, 3, 4, 5, 6, 7] := (rfl)
theorem pneedF16_6 : ppol.needF 16 6 = ([], []) := (rfl)
theorem pwr16_6 : ppol.wr 16 6 = [17, 18, 19, 20, 21, 22, 23, 24, 25, 26] := (rfl)
theorem pown16_6 : ppol.own 16 6 = [] := (rfl)
theorem php16_6 : ppol.hp 16 6 = [] := (rfl)
theorem pfan16_6 : ppol.fan 16 6 = none := (rfl)
theorem ptake17 (t : Nat) : ppol.take 17 t = ([] : List Nat).contains t := (rfl)
theorem ploc17 (t : Nat) : ppol.loc 17 t = ([] : List Nat).contains t := (rfl)
theorem pkeep17 : ppol.keep 17 = none := (rfl)
theorem parr17 (t : Nat) : ppol.arr 17 t = 1 := (rfl)
theorem ppro17 (id : Nat) : ppol.pro 17 id = [] := (rfl)
theorem pfree17 : ppol.free 17 = false := (rfl)
theorem ptake18 (t : Nat) : ppol.take 18 t = ([14] : List Nat).contains t := (rfl)
theorem ploc18 (t : Nat) : ppol.loc 18 t = ([4] : List Nat).contains t := (rfl)
theorem pkeep18 : ppol.keep 18 = some [true, false, false, true, false, false, false, false, false, false, false, false, false, false, false, false, false, false, false, false, false, false] := (rfl)
theorem parr18 (t : Nat) : ppol.arr 18 t = 1 := (rfl)
theorem ppro18 (id : Nat) : ppol.pro 18 id = [] := (rfl)
theorem pfree18 : ppol.free 18 = false := (rfl)
theorem ptake19 (t : Nat) : ppol.take 19 t = ([] : List Nat).contains t := (rfl)
theorem ploc19 (t : Nat) : ppol.loc 19 t = ([2, 3] : List Nat).contains t := (rfl)
theorem pkeep19 : ppol.keep 19 = none := (rfl)
theorem parr19 (t : Nat) : ppol.arr 19 t = 1 := (rfl)
theorem ppro19 (id : Nat) : ppol.pro 19 id = [] := (rfl)
theorem pfree19 : ppol.free 19 = false := (rfl)
theorem ptake23 (t : Nat) : ppol.take 23 t = ([] : List Nat).contains t := (rfl)
theorem ploc23 (t : Nat) : ppol.loc 23 t = ([] : List Nat).contains t := (rfl)
theorem pkeep23 : ppol.keep 23 = none := (rfl)
theorem parr23 (t : Nat) : ppol.arr 23 t = 1 := (rfl)
theorem ppro23 (id : Nat) : ppol.pro 23 id = [] := (rfl)
theorem pfree23 : ppol.free 23 = false := (rfl)
theorem ptake24 (t : Nat) : ppol.take 24 t = ([] : List Nat).contains t := (rfl)
theorem ploc24 (t : Nat) : ppol.loc 24 t = ([] : List Nat).contains t := (rfl)
theorem pkeep24 : ppol.keep 24 = none := (rfl)
theorem parr24 (t : Nat) : ppol.arr 24 t = 1 := (rfl)
theorem ppro24 (id : Nat) : ppol.pro 24 id = [] := (rfl)
theorem pfree24 : ppol.free 24 = false := (rfl)
theorem ptake25 (t : Nat) : ppol.take 25 t = ([62, 50, 37, 23, 15] : List Nat).contains t := (rfl)
theorem ploc25 (t : Nat) : ppol.loc 25 t = ([1] : List Nat).contains t := (rfl)
theorem pkeep25 : ppol.keep 25 = none := (rfl)
theorem parr25 (t : Nat) : ppol.arr 25 t = 1 := (rfl)
theorem ppro25 (id : Nat) : ppol.pro 25 id = [] := (rfl)
theorem pfree25 : ppol.free 25 = false := (rfl)
theorem porder25_13 : ppol.orders 25 13 = [[0, 1, 2, 3, 4, 5, 6, 7, 8, 9, 10]] := (rfl)
theorem pneed25_13 : ppol.need 25 13 = [0, 1, 2, 3, 4, 5, 6, 7, 8, 9] := (rfl)
theorem pneedF25_13 : ppol.needF 25 13 = ([], []) := (rfl)
theorem pwr25_13 : ppol.wr 25 13 = [50, 4, 51, 52, 53, 54, 55, 56, 57, 58, 59] := (rfl)
theorem pown25_13 : ppol.own 25 13 = [] := (rfl)
theorem php25_13 : ppol.hp 25 13 = [] := (rfl)
theorem pfan25_13 : ppol.fan 25 13 = none := (rfl)
theorem ptake26 (t : Nat) : ppol.take 26 t = ([] : List Nat).contains t := (rfl)
theorem ploc26 (t : Nat) : ppol.loc 26 t = ([] : List Nat).contains t := (rfl)
theorem pkeep26 : ppol.keep 26 = none := (rfl)
theorem parr26 (t : Nat) : ppol.arr 26 t = 1 := (rfl)
theorem ppro26 (id : Nat) : ppol.pro 26 id = [] := (rfl)
theorem pfree26 : ppol.free 26 = false := (rfl)
theorem ptake27 (t : Nat) : ppol.take 27 t = ([] : List Nat).contains t := (rfl)
theorem ploc27 (t : Nat) : ppol.loc 27 t = ([] : List Nat).contains t := (rfl)
theorem pkeep27 : ppol.keep 27 = none := (rfl)
theorem parr27 (t : Nat) : ppol.arr 27 t = 1 := (rfl)
theorem ppro27 (id : Nat) : ppol.pro 27 id = [] := (rfl)
theorem pfree27 : ppol.free 27 = false := (rfl)
theorem ptake28 (t : Nat) : ppol.take 28 t = ([] : List Nat).contains t := (rfl)
theorem ploc28 (t : Nat) : ppol.loc 28 t = ([2, 4] : List Nat).contains t := (rfl)
theorem pkeep28 : ppol.keep 28 = none := (rfl)
theorem parr28 (t : Nat) : ppol.arr 28 t = 1 := (rfl)
theorem ppro28 (id : Nat) : ppol.pro 28 id = [] := (rfl)
theorem pfree28 : ppol.free 28 = false := (rfl)
theorem ptake50 (t : Nat) : ppol.take 50 t = ([] : List Nat).contains t := (rfl)
theorem ploc50 (t : Nat) : ppol.loc 50 t = ([] : List Nat).contains t := (rfl)
theorem pkeep50 : ppol.keep 50 = none := (rfl)
theorem parr50 (t : Nat) : ppol.arr 50 t = 1 := (rfl)
theorem ppro50 (id : Nat) : ppol.pro 50 id = [] := (rfl)
theorem pfree50 : ppol.free 50 = false := (rfl)
theorem ptake58 (t : Nat) : ppol.take 58 t = ([8] : List Nat).contains t := (rfl)
theorem ploc58 (t : Nat) : ppol.loc 58 t = ([5] : List Nat).contains t := (rfl)
theorem pkeep58 : ppol.keep 58 = some [false, false, true, false, false, false, false, false, false, false, false, false, false] := (rfl)
theorem parr58 (t : Nat) : ppol.arr 58 t = 2 := (rfl)
theorem ppro58 (id : Nat) : ppol.pro 58 id = [] := (rfl)
theorem pfree58 : ppol.free 58 = false := (rfl)
theorem ptake59 (t : Nat) : ppol.take 59 t = ([] : List Nat).contains t := (rfl)
theorem ploc59 (t : Nat) : ppol.loc 59 t = ([3, 6, 7] : List Nat).contains t := (rfl)
theorem pkeep59 : ppol.keep 59 = some [true, false, false, true, true, true, true, true, false, false, false, false, false, false, false, false, false, false, false, false, false, false, false, false, false, false, false, false, true, true, false, false, false, false, false, false, false, false, false, false, false, false, false, false, false, false, false, false, false, false, false, false, false, false, false, false, false, false, false, false, false, false, false, false, false, false, false, false, false, false, false, false, false, false, false, false, false, false, false, false, false, false, false, false, false, false, false, false, false, false, false] := (rfl)
theorem parr59 (t : Nat) : ppol.arr 59 t = 1 := (rfl)
theorem ppro59_0 : ppol.pro 59 0 = [] := (rfl)
theorem ppro59_1 : ppol.pro 59 1 = [3] := (rfl)
theorem ppro59_2 : ppol.pro 59 2 = [3] := (rfl)
theorem ppro59_3 : ppol.pro 59 3 = [] := (rfl)
theorem ppro59_4 : ppol.pro 59 4 = [] := (rfl)
theorem ppro59_5 : ppol.pro 59 5 = [] := (rfl)
theorem ppro59_6 : ppol.pro 59 6 = [] := (rfl)
theorem ppro59_7 : ppol.pro 59 7 = [] := (rfl)
theorem ppro59_8 : ppol.pro 59 8 = [] := (rfl)
theorem ppro59_9 : ppol.pro 59 9 = [] := (rfl)
theorem ppro59_10 : ppol.pro 59 10 = [] := (rfl)
theorem ppro59_11 : ppol.pro 59 11 = [] := (rfl)
theorem ppro59_12 : ppol.pro 59 12 = [] := (rfl)
theorem ppro59_13 : ppol.pro 59 13 = [3] := (rfl)
theorem ppro59_14 : ppol.pro 59 14 = [3] := (rfl)
theorem ppro59_15 : ppol.pro 59 15 = [] := (rfl)
theorem ppro59_16 : ppol.pro 59 16 = [] := (rfl)
theorem ppro59_17 : ppol.pro 59 17 = [] := (rfl)
theorem ppro59_18 : ppol.pro 59 18 = [] := (rfl)
theorem pfree59 : ppol.free 59 = false := (rfl)
theorem porder59_0 : ppol.orders 59 0 = [[0, 1, 2, 3, 4], [0, 1, 2, 3, 4], [0, 1, 2, 3, 4]] := (rfl)
theorem pneed59_0 : ppol.need 59 0 = [] := (rfl)
theorem pneedF59_0 : ppol.needF 59 0 = ([0, 1, 2], [1]) := (rfl)
theorem pwr59_0 : ppol.wr 59 0 = [12, 13, 3, 4] := (rfl)
theorem pown59_0 : ppol.own 59 0 = [] := (rfl)
theorem php59_0 : ppol.hp 59 0 = [] := (rfl)
theorem pfan59_0 : ppol.fan 59 0 = none := (rfl)
theorem porder59_8 : ppol.orders 59 8 = [[0, 1, 2, 4, 5, 3, 6, 7, 8, 9]] := (rfl)
theorem pneed59_8 : ppol.need 59 8 = [] := (rfl)
theorem pneedF59_8 : ppol.needF 59 8 = ([], []) := (rfl)
theorem pwr59_8 : ppol.wr 59 8 = [32, 33, 34, 35, 36, 37, 38, 39, 40] := (rfl)
theorem pown59_8 : ppol.own 59 8 = [1] := (rfl)
theorem php59_8 : ppol.hp 59 8 = [] := (rfl)
theorem pfan59_8 : ppol.fan 59 8 = none := (rfl)
theorem porder59_10 : ppol.orders 59 10 = [[0, 1, 2, 3, 4, 5, 6, 7, 8, 9, 10, 11, 12, 13]] := (rfl)
theorem pneed59_10 : ppol.need 59 10 = [0, 1, 2, 3, 4, 5, 6, 7, 8, 9, 10] := (rfl)
theorem pneedF59_10 : ppol.needF 59 10 = ([], []) := (rfl)
theorem pwr59_10 : ppol.wr 59 10 = [42, 43, 44, 45, 46, 47, 48, 49, 50, 51, 52, 53, 54] := (rfl)
theorem pown59_10 : ppol.own 59 10 = [] := (rfl)
theorem php59_10 : ppol.hp 59 10 = [] := (rfl)
theorem pfan59_10 : ppol.fan 59 10 = none := (rfl)
theorem porder59_12 : ppol.orders 59 12 = [[0, 2, 3, 4, 1, 5, 6]] := (rfl)
theorem pneed59_12 : ppol.need 59 12 = [] := (rfl)
theorem pneedF59_12 : ppol.needF 59 12 = ([], []) := (rfl)
theorem pwr59_12 : ppol.wr 59 12 = [58, 59, 60, 61, 62, 63, 9] := (rfl)
theorem pown59_12 : ppol.own 59 12 = [3] := (rfl)
theorem php59_12 : ppol.hp 59 12 = [] := (rfl)
theorem pfan59_12 : ppol.fan 59 12 = none := (rfl)
theorem porder59_14 : ppol.orders 59 14 = [[0, 1, 2, 4, 5, 6, 3, 7, 8, 9], [0, 1, 2, 3, 4, 5, 6, 7, 8, 9], [0, 1, 2, 3, 4, 5, 6, 7, 8, 9]] := (rfl)
theorem pneed59_14 : ppol.need 59 14 = [] := (rfl)
theorem pneedF59_14 : ppol.needF 59 14 = ([0, 1, 2, 3, 4, 5, 6, 7, 8], [3]) := (rfl)
theorem pwr59_14 : ppol.wr 59 14 = [68, 69, 70, 71, 72, 73, 74, 75] := (rfl)
theorem pown59_14 : ppol.own 59 14 = [8] := (rfl)
theorem php59_14 : ppol.hp 59 14 = [4] := (rfl)
theorem pfan59_14 : ppol.fan 59 14 = none := (rfl)
theorem ptake60 (t : Nat) : ppol.take 60 t = ([] : List Nat).contains t := (rfl)
theorem ploc60 (t : Nat) : ppol.loc 60 t = ([] : List Nat).contains t := (rfl)
theorem pkeep60 : ppol.keep 60 = none := (rfl)
theorem parr60 (t : Nat) : ppol.arr 60 t = 1 := (rfl)
theorem ppro60 (id : Nat) : ppol.pro 60 id = [] := (rfl)
theorem pfree60 : ppol.free 60 = false := (rfl)
theorem ptake61 (t : Nat) : ppol.take 61 t = ([] : List Nat).contains t := (rfl)
theorem ploc61 (t : Nat) : ppol.loc 61 t = ([] : List Nat).contains t := (rfl)
theorem pkeep61 : ppol.keep 61 = none := (rfl)
theorem parr61 (t : Nat) : ppol.arr 61 t = 2 := (rfl)
theorem ppro61 (id : Nat) : ppol.pro 61 id = [] := (rfl)
theorem pfree61 : ppol.free 61 = false := (rfl)
theorem tycells2 : Tryz.prog.cellsOf 2 = 1 := by kernel_rfl
theorem tybytes2 : Tryz.prog.bytesOf 2 = 8 := by kernel_rfl
theorem tyzero2 : zeroA Tryz.prog 2 = some (.int .i64 (0)) := by kernel_rfl
theorem tyagg2 : aggT Tryz.prog 2 = false := by kernel_rfl
theorem tyval2 (cs : List AV) : valAt Tryz.prog 2 cs = cs.head? := valAt_one (by kernel_rfl) tyagg2 cs
theorem tycells3 : Tryz.prog.cellsOf 3 = 1 := by kernel_rfl
theorem tybytes3 : Tryz.prog.bytesOf 3 = 8 := by kernel_rfl
theorem tyzero3 : zeroA Tryz.prog 3 = some (.int .i64 (0)) := by kernel_rfl
theorem tyagg3 : aggT Tryz.prog 3 = false := by kernel_rfl
theorem tyval3 (cs : List AV) : valAt Tryz.prog 3 cs = cs.head? := valAt_one (by kernel_rfl) tyagg3 cs
theorem tycells4 : Tryz.prog.cellsOf 4 = 1 := by kernel_rfl
theorem tybytes4 : Tryz.prog.bytesOf 4 = 1 := by kernel_rfl
theorem tyzero4 : zeroA Tryz.prog 4 = some (.bool false) := by kernel_rfl
theorem tyagg4 : aggT Tryz.prog 4 = false := by kernel_rfl
theorem tyval4 (cs : List AV) : valAt Tryz.prog 4 cs = cs.head? := valAt_one (by kernel_rfl) tyagg4 cs
theorem tycells5 : Tryz.prog.cellsOf 5 = 1 := by kernel_rfl
theorem tybytes5 : Tryz.prog.bytesOf 5 = 1 := by kernel_rfl
theorem tyzero5 : zeroA Tryz.prog 5 = some (.int .u8 (0)) := by kernel_rfl
theorem tyagg5 : aggT Tryz.prog 5 = false := by kernel_rfl
theorem tyval5 (cs : List AV) : valAt Tryz.prog 5 cs = cs.head? := valAt_one (by kernel_rfl) tyagg5 cs
theorem tycells9 : Tryz.prog.cellsOf 9 = 1 := by kernel_rfl
theorem tybytes9 : Tryz.prog.bytesOf 9 = 16 := by kernel_rfl
theorem tyzero9 : zeroA Tryz.prog 9 = some (.str []) := by kernel_rfl
theorem tyagg9 : aggT Tryz.prog 9 = false := by kernel_rfl
theorem tyval9 (cs : List AV) : valAt Tryz.prog 9 cs = cs.head? := valAt_one (by kernel_rfl) tyagg9 cs
theorem tycells22 : Tryz.prog.cellsOf 22 = 1 := by kernel_rfl
theorem tybytes22 : Tryz.prog.bytesOf 22 = 24 := by kernel_rfl
theorem tyzero22 : zeroA Tryz.prog 22 = some (.nilsl) := by kernel_rfl
theorem tyagg22 : aggT Tryz.prog 22 = false := by kernel_rfl
theorem tyval22 (cs : List AV) : valAt Tryz.prog 22 cs = cs.head? := valAt_one (by kernel_rfl) tyagg22 cs
theorem tycells25 : Tryz.prog.cellsOf 25 = 1 := by kernel_rfl
theorem tybytes25 : Tryz.prog.bytesOf 25 = 8 := by kernel_rfl
theorem tyzero25 : zeroA Tryz.prog 25 = some (.int .i64 (0)) := by kernel_rfl
theorem tyagg25 : aggT Tryz.prog 25 = false := by kernel_rfl
theorem tyval25 (cs : List AV) : valAt Tryz.prog 25 cs = cs.head? := valAt_one (by kernel_rfl) tyagg25 cs
theorem tycells26 : Tryz.prog.cellsOf 26 = 1 := by kernel_rfl
theorem tybytes26 : Tryz.prog.bytesOf 26 = 24 := by kernel_rfl
theorem tyzero26 : zeroA Tryz.prog 26 = some (.nilsl) := by kernel_rfl
theorem tyagg26 : aggT Tryz.prog 26 = false := by kernel_rfl
theorem tyval26 (cs : List AV) : valAt Tryz.prog 26 cs = cs.head? := valAt_one (by kernel_rfl) tyagg26 cs
theorem tycells27 : Tryz.prog.cellsOf 27 = 1 := by kernel_rfl
theorem tybytes27 : Tryz.prog.bytesOf 27 = 4 := by kernel_rfl
theorem tyzero27 : zeroA Tryz.prog 27 = some (.int .u32 (0)) := by kernel_rfl
theorem tyagg27 : aggT Tryz.prog 27 = false := by kernel_rfl
theorem tyval27 (cs : List AV) : valAt Tryz.prog 27 cs = cs.head? := valAt_one (by kernel_rfl) tyagg27 cs
theorem tycells29 : Tryz.prog.cellsOf 29 = 4 := by kernel_rfl
theorem tybytes29 : Tryz.prog.bytesOf 29 = 48 := by kernel_rfl
theorem tyzero29 : zeroA Tryz.prog 29 = some (.agg [.int .i64 (0), .int .i64 (0), .nilsl, .int .u32 (0)]) := by kernel_rfl
theorem tyagg29 : aggT Tryz.prog 29 = true := by kernel_rfl
theorem tyval29 (cs : List AV) : valAt Tryz.prog 29 cs = if 4 ≤ cs.length then some (.agg (cs.take 4)) else none := by rw [valAt_agg tyagg29, tycells29]
theorem tyfa29_0 (a : AV) : fieldAddrA Tryz.prog 29 a 0 = addOff a 0 := fieldAddrA_at (k := 0) (by kernel_rfl) a
theorem tysp29_0 : structPlaces Tryz.prog 29 0 = some (0, 1) := by kernel_rfl
theorem tyfd29_0 (cs : List AV) : fieldA Tryz.prog 29 (.agg cs) 0 = valAt Tryz.prog 25 (cs.drop 0) := fieldA_at (by kernel_rfl) cs
theorem tyfa29_1 (a : AV) : fieldAddrA Tryz.prog 29 a 1 = addOff a 1 := fieldAddrA_at (k := 0) (by kernel_rfl) a
theorem tysp29_1 : structPlaces Tryz.prog 29 1 = some (1, 1) := by kernel_rfl
theorem tyfd29_1 (cs : List AV) : fieldA Tryz.prog 29 (.agg cs) 1 = valAt Tryz.prog 3 (cs.drop 1) := fieldA_at (by kernel_rfl) cs
theorem tyfa29_2 (a : AV) : fieldAddrA Tryz.prog 29 a 2 = addOff a 2 := fieldAddrA_at (k := 0) (by kernel_rfl) a
theorem tysp29_2 : structPlaces Tryz.prog 29 2 = some (2, 1) := by kernel_rfl
theorem tyfd29_2 (cs : List AV) : fieldA Tryz.prog 29 (.agg cs) 2 = valAt Tryz.prog 26 (cs.drop 2) := fieldA_at (by kernel_rfl) cs
theorem tyfa29_3 (a : AV) : fieldAddrA Tryz.prog 29 a 3 = addOff a 3 := fieldAddrA_at (k := 0) (by kernel_rfl) a
theorem tysp29_3 : structPlaces Tryz.prog 29 3 = some (3, 1) := by kernel_rfl
theorem tyfd29_3 (cs : List AV) : fieldA Tryz.prog 29 (.agg cs) 3 = valAt Tryz.prog 27 (cs.drop 3) := fieldA_at (by kernel_rfl) cs
theorem tycells31 : Tryz.prog.cellsOf 31 = 1 := by kernel_rfl
theorem tybytes31 : Tryz.prog.bytesOf 31 = 8 := by kernel_rfl
theorem tyzero31 : zeroA Tryz.prog 31 = some (.int .i64 (0)) := by kernel_rfl
theorem tyagg31 : aggT Tryz.prog 31 = false := by kernel_rfl
theorem tyval31 (cs : List AV) : valAt Tryz.prog 31 cs = cs.head? := valAt_one (by kernel_rfl) tyagg31 cs
theorem tycells64 : Tryz.prog.cellsOf 64 = 1 := by kernel_rfl
theorem tybytes64 : Tryz.prog.bytesOf 64 = 8 := by kernel_rfl
theorem tyzero64 : zeroA Tryz.prog 64 = some (.nilfn) := by kernel_rfl
theorem tyagg64 : aggT Tryz.prog 64 = false := by kernel_rfl
theorem tyval64 (cs : List AV) : valAt Tryz.prog 64 cs = cs.head? := valAt_one (by kernel_rfl) tyagg64 cs
theorem tycells66 : Tryz.prog.cellsOf 66 = 6 := by kernel_rfl
theorem tybytes66 : Tryz.prog.bytesOf 66 = 48 := by kernel_rfl
theorem tyzero66 : zeroA Tryz.prog 66 = some (.agg [.int .i64 (0), .int .i64 (0), .int .i64 (0), .int .i64 (0), .bool false, .nilfn]) := by kernel_rfl
theorem tyagg66 : aggT Tryz.prog 66 = true := by kernel_rfl
theorem tyval66 (cs : List AV) : valAt Tryz.prog 66 cs = if 6 ≤ cs.length then some (.agg (cs.take 6)) else none := by rw [valAt_agg tyagg66, tycells66]
theorem tyfa66_0 (a : AV) : fieldAddrA Tryz.prog 66 a 0 = addOff a 0 := fieldAddrA_at (k := 0) (by kernel_rfl) a
theorem tysp66_0 : structPlaces Tryz.prog 66 0 = some (0, 1) := by kernel_rfl
theorem tyfd66_0 (cs : List AV) : fieldA Tryz.prog 66 (.agg cs) 0 = valAt Tryz.prog 3 (cs.drop 0) := fieldA_at (by kernel_rfl) cs
theorem tyfa66_1 (a : AV) : fieldAddrA Tryz.prog 66 a 1 = addOff a 1 := fieldAddrA_at (k := 0) (by kernel_rfl) a
theorem tysp66_1 : structPlaces Tryz.prog 66 1 = some (1, 1) := by kernel_rfl
theorem tyfd66_1 (cs : List AV) : fieldA Tryz.prog 66 (.agg cs) 1 = valAt Tryz.prog 3 (cs.drop 1) := fieldA_at (by kernel_rfl) cs
theorem tyfa66_2 (a : AV) : fieldAddrA Tryz.prog 66 a 2 = addOff a 2 := fieldAddrA_at (k := 0) (by kernel_rfl) a
theorem tysp66_2 : structPlaces Tryz.prog 66 2 = some (2, 1) := by kernel_rfl
theorem tyfd66_2 (cs : List AV) : fieldA Tryz.prog 66 (.agg cs) 2 = valAt Tryz.prog 3 (cs.drop 2) := fieldA_at (by kernel_rfl) cs
theorem tyfa66_3 (a : AV) : fieldAddrA Tryz.prog 66 a 3 = addOff a 3 := fieldAddrA_at (k := 0) (by kernel_rfl) a
theorem tysp66_3 : structPlaces Tryz.prog 66 3 = some (3, 1) := by kernel_rfl
theorem tyfd66_3 (cs : List AV) : fieldA Tryz.prog 66 (.agg cs) 3 = valAt Tryz.prog 3 (cs.drop 3) := fieldA_at (by kernel_rfl) cs
theorem tyfa66_4 (a : AV) : fieldAddrA Tryz.prog 66 a 4 = addOff a 4 := fieldAddrA_at (k := 0) (by kernel_rfl) a
theorem tysp66_4 : structPlaces Tryz.prog 66 4 = some (4, 1) := by kernel_rfl
theorem tyfd66_4 (cs : List AV) : fieldA Tryz.prog 66 (.agg cs) 4 = valAt Tryz.prog 4 (cs.drop 4) := fieldA_at (by kernel_rfl) cs
theorem tyfa66_5 (a : AV) : fieldAddrA Tryz.prog 66 a 5 = addOff a 5 := fieldAddrA_at (k := 0) (by kernel_rfl) a
theorem tysp66_5 : structPlaces Tryz.prog 66 5 = some (5, 1) := by kernel_rfl
theorem tyfd66_5 (cs : List AV) : fieldA Tryz.prog 66 (.agg cs) 5 = valAt Tryz.prog 64 (cs.drop 5) := fieldA_at (by kernel_rfl) cs
theorem tycells68 : Tryz.prog.cellsOf 68 = 1 := by kernel_rfl
theorem tybytes68 : Tryz.prog.bytesOf 68 = 8 := by kernel_rfl
theorem tyzero68 : zeroA Tryz.prog 68 = some (.nilmap) := by kernel_rfl
theorem tyagg68 : aggT Tryz.prog 68 = false := by kernel_rfl
theorem tyval68 (cs : List AV) : valAt Tryz.prog 68 cs = cs.head? := valAt_one (by kernel_rfl) tyagg68 cs
theorem tycells114 : Tryz.prog.cellsOf 114 = 1 := by kernel_rfl
theorem tybytes114 : Tryz.prog.bytesOf 114 = 8 := by kernel_rfl
theorem tyzero114 : zeroA Tryz.prog 114 = some (.nilfn) := by kernel_rfl
theorem tyagg114 : aggT Tryz.prog 114 = false := by kernel_rfl
theorem tyval114 (cs : List AV) : valAt Tryz.prog 114 cs = cs.head? := valAt_one (by kernel_rfl) tyagg114 cs
theorem pfrees0 (f : FuncId) : ppol.frees f = [] := (rfl)
theorem pfrz (f : FuncId) : ppol.frz f = false := (rfl)
theorem pfzr (f : FuncId) (id : Nat) : ppol.fzr f id = [] := (rfl)
theorem pout (f : FuncId) (id : Nat) : ppol.out f id = none := (rfl)
attribute [simp ↓] pfrees0 pfrz pfzr pout
attribute [simp] pfrees0 pfrz pfzr pout
attribute [simp] pclone ptake5 ploc5 pkeep5 parr5 ppro5 pfree5 ptake6 ploc6 pkeep6 parr6 ppro6
attribute [simp] pfree6 ptake7 ploc7 pkeep7 parr7 ppro7 pfree7 porder7_4 pneed7_4 pneedF7_4 pwr7_4 pown7_4
attribute [simp] php7_4 pfan7_4 ptake9 ploc9 pkeep9 parr9 ppro9 pfree9 ptake11 ploc11 pkeep11 parr11
attribute [simp] ppro11 pfree11 ptake12 ploc12 pkeep12 parr12 ppro12 pfree12 porder12_1 pneed12_1 pneedF12_1 pwr12_1
attribute [simp] pown12_1 php12_1 pfan12_1 ptake13 ploc13 pkeep13 parr13 ppro13 pfree13 porder13_2 pneed13_2 pneedF13_2
attribute [simp] pwr13_2 pown13_2 php13_2 pfan13_2 ptake14 ploc14 pkeep14 parr14 ppro14 pfree14 porder14_18 pneed14_18
attribute [simp] pneedF14_18 pwr14_18 pown14_18 php14_18 pfan14_18 ptake15 ploc15 pkeep15 parr15 ppro15 pfree15 ptake16
attribute [simp] ploc16 pkeep16 parr16 ppro16 pfree16 porder16_6 pneed16_6 pneedF16_6 pwr16_6 pown16_6 php16_6 pfan16_6
attribute [simp] ptake17 ploc17 pkeep17 parr17 ppro17 pfree17 ptake18 ploc18 pkeep18 parr18 ppro18 pfree18
attribute [simp] ptake19 ploc19 pkeep19 parr19 ppro19 pfree19 ptake23 ploc23 pkeep23 parr23 ppro23 pfree23
attribute [simp] ptake24 ploc24 pkeep24 parr24 ppro24 pfree24 ptake25 ploc25 pkeep25 parr25 ppro25 pfree25
attribute [simp] porder25_13 pneed25_13 pneedF25_13 pwr25_13 pown25_13 php25_13 pfan25_13 ptake26 ploc26 pkeep26 parr26 ppro26
attribute [simp] pfree26 ptake27 ploc27 pkeep27 parr27 ppro27 pfree27 ptake28 ploc28 pkeep28 parr28 ppro28
attribute [simp] pfree28 ptake50 ploc50 pkeep50 parr50 ppro50 pfree50 ptake58 ploc58 pkeep58 parr58 ppro58
attribute [simp] pfree58 ptake59 ploc59 pkeep59 parr59 ppro59_0 ppro59_1 ppro59_2 ppro59_3 ppro59_4 ppro59_5 ppro59_6
attribute [simp] ppro59_7 ppro59_8 ppro59_9 ppro59_10 ppro59_11 ppro59_12 ppro59_13 ppro59_14 ppro59_15 ppro59_16 ppro59_17 ppro59_18
attribute [simp] pfree59 porder59_0 pneed59_0 pneedF59_0 pwr59_0 pown59_0 php59_0 pfan59_0 porder59_8 pneed59_8 pneedF59_8 pwr59_8
attribute [simp] pown59_8 php59_8 pfan59_8 porder59_10 pneed59_10 pneedF59_10 pwr59_10 pown59_10 php59_10 pfan59_10 porder59_12 pneed59_12
attribute [simp] pneedF59_12 pwr59_12 pown59_12 php59_12 pfan59_12 porder59_14 pneed59_14 pneedF59_14 pwr59_14 pown59_14 php59_14 pfan59_14
attribute [simp] ptake60 ploc60 pkeep60 parr60 ppro60 pfree60 ptake61 ploc61 pkeep61 parr61 ppro61 pfree61
attribute [simp] tycells2 tybytes2 tyzero2 tyagg2 tyval2 tycells3 tybytes3 tyzero3 tyagg3 tyval3 tycells4 tybytes4
attribute [simp] tyzero4 tyagg4 tyval4 tycells5 tybytes5 tyzero5 tyagg5 tyval5 tycells9 tybytes9 tyzero9 tyagg9
attribute [simp] tyval9 tycells22 tybytes22 tyzero22 tyagg22 tyval22 tycells25 tybytes25 tyzero25 tyagg25 tyval25 tycells26
attribute [simp] tybytes26 tyzero26 tyagg26 tyval26 tycells27 tybytes27 tyzero27 tyagg27 tyval27 tycells29 tybytes29 tyzero29
attribute [simp] tyagg29 tyval29 tyfa29_0 tysp29_0 tyfd29_0 tyfa29_1 tysp29_1 tyfd29_1 tyfa29_2 tysp29_2 tyfd29_2 tyfa29_3
attribute [simp] tysp29_3 tyfd29_3 tycells31 tybytes31 tyzero31 tyagg31 tyval31 tycells64 tybytes64 tyzero64 tyagg64 tyval64
attribute [simp] tycells66 tybytes66 tyzero66 tyagg66 tyval66 tyfa66_0 tysp66_0 tyfd66_0 tyfa66_1 tysp66_1 tyfd66_1 tyfa66_2
attribute [simp] tysp66_2 tyfd66_2 tyfa66_3 tysp66_3 tyfd66_3 tyfa66_4 tysp66_4 tyfd66_4 tyfa66_5 tysp66_5 tyfd66_5 tycells68
attribute [simp] tybytes68 tyzero68 tyagg68 tyval68 tycells114 tybytes114 tyzero114 tyagg114 tyval114
end Go.Ab.Seat
namespace Go.Ab.Seat
open Go.Proofs
def sc1 : Sto := { heap := [(24, .cells [.fn (.func 57) [] []]), (23, .cells [.fn (.func 56) [] []]), (22, .cells [.fn (.func 55) [] []]), (21, .cells [.fn (.func 54) [] []]), (20, .cells [.fn (.func 53) [] []]), (19, .cells [.fn (.func 52) [] []]), (18, .cells [.fn (.func 51) [] []]), (17, .map [(.int .i64 (1), .agg [.int .i64 (0), .int .i64 (255), .int .i64 (1), .int .i64 (-1), .bool false, .fn (.func 49) [] []]), (.int .i64 (2), .agg [.int .i64 (0), .int .i64 (65535), .int .i64 (2), .int .i64 (255), .bool false, .fn (.func 85) [] [.ptr 18 0]]), (.int .i64 (3), .agg [.int .i64 (0), .int .i64 (255), .int .i64 (1), .int .i64 (64), .bool false, .fn (.func 85) [] [.ptr 19 0]]), (.int .i64 (4), .agg [.int .i64 (0), .int .i64 (0), .int .i64 (0), .int .i64 (255), .bool false, .fn (.func 85) [] [.ptr 20 0]]), (.int .i64 (5), .agg [.int .i64 (0), .int .i64 (0), .int .i64 (0), .int .i64 (64), .bool false, .fn (.func 85) [] [.ptr 21 0]]), (.int .i64 (6), .agg [.int .i64 (1), .int .i64 (4), .int .i64 (1), .int .i64 (-1), .bool true, .fn (.func 85) [] [.ptr 22 0]]), (.int .i64 (7), .agg [.int .i64 (1), .int .i64 (4), .int .i64 (1), .int .i64 (-1), .bool true, .fn (.func 85) [] [.ptr 23 0]]), (.int .i64 (8), .agg [.int .i64 (0), .int .i64 (0), .int .i64 (0), .int .i64 (-1), .bool true, .fn (.func 85) [] [.ptr 24 0]])]), (16, .arr 4 [[.int .i64 (4), .int .i64 (0), .rsl 14 1 0 1, .int .u32 (0)]]), (15, .arr 4 [[.int .i64 (4), .int .i64 (0), .rsl 14 1 0 1, .int .u32 (0)]]), (14, .arr 1 [[.int .u8 (104)]]), (12, .cells [.sl false 1 []]), (11, .cells [.fn (.func 57) [] []]), (10, .cells [.fn (.func 56) [] []]), (9, .cells [.fn (.func 55) [] []]), (8, .cells [.fn (.func 54) [] []]), (7, .cells [.fn (.func 53) [] []]), (6, .cells [.fn (.func 52) [] []]), (5, .cells [.fn (.func 51) [] []]), (4, .map [(.int .i64 (1), .agg [.int .i64 (0), .int .i64 (255), .int .i64 (1), .int .i64 (-1), .bool false, .fn (.func 49) [] []]), (.int .i64 (2), .agg [.int .i64 (0), .int .i64 (65535), .int .i64 (2), .int .i64 (255), .bool false, .fn (.func 85) [] [.ptr 5 0]]), (.int .i64 (3), .agg [.int .i64 (0), .int .i64 (255), .int .i64 (1), .int .i64 (64), .bool false, .fn (.func 85) [] [.ptr 6 0]]), (.int .i64 (4), .agg [.int .i64 (0), .int .i64 (0), .int .i64 (0), .int .i64 (255), .bool false, .fn (.func 85) [] [.ptr 7 0]]), (.int .i64 (5), .agg [.int .i64 (0), .int .i64 (0), .int .i64 (0), .int .i64 (64), .bool false, .fn (.func 85) [] [.ptr 8 0]]), (.int .i64 (6), .agg [.int .i64 (1), .int .i64 (4), .int .i64 (1), .int .i64 (-1), .bool true, .fn (.func 85) [] [.ptr 9 0]]), (.int .i64 (7), .agg [.int .i64 (1), .int .i64 (4), .int .i64 (1), .int .i64 (-1), .bool true, .fn (.func 85) [] [.ptr 10 0]]), (.int .i64 (8), .agg [.int .i64 (0), .int .i64 (0), .int .i64 (0), .int .i64 (-1), .bool true, .fn (.func 85) [] [.ptr 11 0]])]), (1, .cells [.rsl 16 4 0 1]), (0, .cells [.sl false 1 [[.int .u8 (3)], [.int .u8 (2)], [.int .u8 (104)]]])], next := 33 }
def sc2 : Sto := { heap := [(44, .cells [.ptr 43 0]), (43, .cells [.int .i64 (1), .int .i64 (1), .bool false, .int .i64 (0), .int .u32 (0), .int .u32 (0), .int .u32 (0), .int .u32 (0), .int .u32 (0), .int .u32 (0), .int .u32 (0), .int .u32 (0), .int .u32 (0), .int .u32 (0), .int .u32 (0), .ptr 41 0, .nilptr, .ptr 42 0, .nilptr]), (42, .cells [.int .u32 (0), .int .u32 (0), .int .u32 (0), .int .u32 (0), .int .u32 (0), .int .u32 (0), .int .u32 (0), .int .u32 (0), .int .u32 (0), .int .u32 (0), .int .u32 (0), .bool true]), (41, .cells [.ptr 40 0]), (40, .cells [.int .i64 (1), .int .i64 (1), .ptr 34 0, .ptr 37 0, .ptr 38 0, .ptr 36 0, .ptr 39 0, .int .u32 (0), .int .u32 (0), .int .u32 (0), .int .u32 (0), .int .u32 (0), .int .u32 (0), .int .u32 (0), .int .u32 (0), .int .u32 (0), .int .u32 (0), .int .u32 (0), .int .u32 (0), .int .u32 (0), .bool true, .bool false, .bool false, .int .i64 (0), .bool false, .int .u32 (0), .int .u32 (0)]), (39, .cells [.nilsl, .nilsl, .int .i64 (0), .int .i64 (0), .bool true]), (38, .cells [.int .u32 (0), .int .u32 (0), .bool false, .bool false, .bool false, .bool false, .nilsl, .int .i64 (0), .nilsl, .bool true]), (37, .cells [.bool false, .int .u32 (0), .int .u32 (0), .bool false, .bool false, .int .u32 (0), .int .u32 (0), .bool false, .bool false, .int .u32 (0), .int .u32 (0), .bool false, .bool false, .int .u32 (0), .int .u32 (0), .bool false, .int .i64 (0), .bool true]), (36, .cells [.int .i64 (1), .map 35]), (35, .map []), (34, .cells [.rsl 33 1 0 64]), (33, .arr 1 [[.int .u8 (0)], [.int .u8 (0)], [.int .u8 (0)], [.int .u8 (0)], [.int .u8 (0)], [.int .u8 (0)], [.int .u8 (0)], [.int .u8 (0)], [.int .u8 (0)], [.int .u8 (0)], [.int .u8 (0)], [.int .u8 (0)], [.int .u8 (0)], [.int .u8 (0)], [.int .u8 (0)], [.int .u8 (0)], [.int .u8 (0)], [.int .u8 (0)], [.int .u8 (0)], [.int .u8 (0)], [.int .u8 (0)], [.int .u8 (0)], [.int .u8 (0)], [.int .u8 (0)], [.int .u8 (0)], [.int .u8 (0)], [.int .u8 (0)], [.int .u8 (0)], [.int .u8 (0)], [.int .u8 (0)], [.int .u8 (0)], [.int .u8 (0)], [.int .u8 (0)], [.int .u8 (0)], [.int .u8 (0)], [.int .u8 (0)], [.int .u8 (0)], [.int .u8 (0)], [.int .u8 (0)], [.int .u8 (0)], [.int .u8 (0)], [.int .u8 (0)], [.int .u8 (0)], [.int .u8 (0)], [.int .u8 (0)], [.int .u8 (0)], [.int .u8 (0)], [.int .u8 (0)], [.int .u8 (0)], [.int .u8 (0)], [.int .u8 (0)], [.int .u8 (0)], [.int .u8 (0)], [.int .u8 (0)], [.int .u8 (0)], [.int .u8 (0)], [.int .u8 (0)], [.int .u8 (0)], [.int .u8 (0)], [.int .u8 (0)], [.int .u8 (0)], [.int .u8 (0)], [.int .u8 (0)], [.int .u8 (0)]])] ++ sc1.heap, next := 45 }
def sca1 : List AV := [.agg [.int .i64 (1), .int .i64 (1), .bool false, .int .i64 (0), .int .u32 (0), .int .u32 (0), .int .u32 (0), .int .u32 (0), .int .u32 (0), .int .u32 (0), .int .u32 (0), .int .u32 (0), .int .u32 (0), .int .u32 (0), .int .u32 (0)]]
def scr1 : Option (AEnd × Sto) := some (.ret (.tup [.ptr 44 0, .int .i64 (0)]), sc2)
def scm1 : Memo := ⟨37, sca1, sc1, scr1⟩
-- FACT 1 level sc.22 handler 198 .func 37
def sc3 : Sto := { heap := [(45, .cells [.nilsl, .nilsl, .int .i64 (0), .int .i64 (0), .bool false, .int .u32 (0), .int .u32 (0), .int .u32 (0), .int .u32 (0), .int .u32 (0), .int .u32 (0), .int .u32 (0), .int .u32 (0), .int .u32 (0), .int .u32 (0), .int .u32 (0), .int .u32 (0), .int .u32 (0), .bool false, .bool false, .bool false, .nilsl, .nilsl, .nilsl, .nilsl, .nilsl])] ++ sc2.heap, next := 46 }
def sc4 : Sto := { heap := [(72, .cells [.ptr 63 0]), (71, .cells [.nilsl, .nilsl, .int .i64 (0), .int .i64 (0), .bool true]), (70, .cells [.int .i64 (1), .map 69]), (69, .map []), (68, .cells [.int .u32 (0), .int .u32 (0), .bool false, .bool false, .bool false, .bool false, .sl true 1 [[.int .u8 (104)], [.int .u8 (105)]], .int .i64 (0), .nilsl, .bool true]), (67, .cells [.bool false, .int .u32 (0), .int .u32 (0), .bool false, .bool false, .int .u32 (0), .int .u32 (0), .bool false, .bool false, .int .u32 (0), .int .u32 (0), .bool false, .bool false, .int .u32 (0), .int .u32 (0), .bool false, .int .i64 (0), .bool true]), (66, .cells [.rsl 65 1 0 64]), (65, .arr 1 [[.int .u8 (0)], [.int .u8 (0)], [.int .u8 (0)], [.int .u8 (0)], [.int .u8 (0)], [.int .u8 (0)], [.int .u8 (0)], [.int .u8 (0)], [.int .u8 (0)], [.int .u8 (0)], [.int .u8 (0)], [.int .u8 (0)], [.int .u8 (0)], [.int .u8 (0)], [.int .u8 (0)], [.int .u8 (0)], [.int .u8 (0)], [.int .u8 (0)], [.int .u8 (0)], [.int .u8 (0)], [.int .u8 (0)], [.int .u8 (0)], [.int .u8 (0)], [.int .u8 (0)], [.int .u8 (0)], [.int .u8 (0)], [.int .u8 (0)], [.int .u8 (0)], [.int .u8 (0)], [.int .u8 (0)], [.int .u8 (0)], [.int .u8 (0)], [.int .u8 (0)], [.int .u8 (0)], [.int .u8 (0)], [.int .u8 (0)], [.int .u8 (0)], [.int .u8 (0)], [.int .u8 (0)], [.int .u8 (0)], [.int .u8 (0)], [.int .u8 (0)], [.int .u8 (0)], [.int .u8 (0)], [.int .u8 (0)], [.int .u8 (0)], [.int .u8 (0)], [.int .u8 (0)], [.int .u8 (0)], [.int .u8 (0)], [.int .u8 (0)], [.int .u8 (0)], [.int .u8 (0)], [.int .u8 (0)], [.int .u8 (0)], [.int .u8 (0)], [.int .u8 (0)], [.int .u8 (0)], [.int .u8 (0)], [.int .u8 (0)], [.int .u8 (0)], [.int .u8 (0)], [.int .u8 (0)], [.int .u8 (0)]]), (63, .cells [.int .i64 (1), .int .i64 (1), .ptr 66 0, .ptr 67 0, .ptr 68 0, .ptr 70 0, .ptr 71 0, .int .u32 (0), .int .u32 (0), .int .u32 (0), .int .u32 (0), .int .u32 (0), .int .u32 (0), .int .u32 (0), .int .u32 (0), .int .u32 (0), .int .u32 (0), .int .u32 (0), .int .u32 (0), .int .u32 (0), .bool true, .bool false, .bool false, .int .i64 (0), .bool false, .int .u32 (0), .int .u32 (0)]), (62, .cells [.sl false 1 [[.int .u8 (104)], [.int .u8 (105)]]]), (61, .cells [.fn (.func 57) [] []]), (60, .cells [.fn (.func 56) [] []]), (59, .cells [.fn (.func 55) [] []]), (58, .cells [.fn (.func 54) [] []]), (57, .cells [.fn (.func 53) [] []]), (56, .cells [.fn (.func 52) [] []]), (55, .cells [.fn (.func 51) [] []]), (54, .map [(.int .i64 (1), .agg [.int .i64 (0), .int .i64 (255), .int .i64 (1), .int .i64 (-1), .bool false, .fn (.func 49) [] []]), (.int .i64 (2), .agg [.int .i64 (0), .int .i64 (65535), .int .i64 (2), .int .i64 (255), .bool false, .fn (.func 85) [] [.ptr 55 0]]), (.int .i64 (3), .agg [.int .i64 (0), .int .i64 (255), .int .i64 (1), .int .i64 (64), .bool false, .fn (.func 85) [] [.ptr 56 0]]), (.int .i64 (4), .agg [.int .i64 (0), .int .i64 (0), .int .i64 (0), .int .i64 (255), .bool false, .fn (.func 85) [] [.ptr 57 0]]), (.int .i64 (5), .agg [.int .i64 (0), .int .i64 (0), .int .i64 (0), .int .i64 (64), .bool false, .fn (.func 85) [] [.ptr 58 0]]), (.int .i64 (6), .agg [.int .i64 (1), .int .i64 (4), .int .i64 (1), .int .i64 (-1), .bool true, .fn (.func 85) [] [.ptr 59 0]]), (.int .i64 (7), .agg [.int .i64 (1), .int .i64 (4), .int .i64 (1), .int .i64 (-1), .bool true, .fn (.func 85) [] [.ptr 60 0]]), (.int .i64 (8), .agg [.int .i64 (0), .int .i64 (0), .int .i64 (0), .int .i64 (-1), .bool true, .fn (.func 85) [] [.ptr 61 0]])]), (45, .cells [.nilsl, .nilsl, .int .i64 (0), .int .i64 (0), .bool false, .int .u32 (0), .int .u32 (0), .int .u32 (0), .int .u32 (0), .int .u32 (0), .int .u32 (0), .int .u32 (0), .int .u32 (0), .int .u32 (0), .int .u32 (0), .int .u32 (0), .int .u32 (0), .int .u32 (0), .bool false, .bool false, .bool false, .nilsl, .nilsl, .nilsl, .nilsl, .nilsl]), (44, .cells [.ptr 43 0]), (43, .cells [.int .i64 (1), .int .i64 (1), .bool false, .int .i64 (0), .int .u32 (0), .int .u32 (0), .int .u32 (0), .int .u32 (0), .int .u32 (0), .int .u32 (0), .int .u32 (0), .int .u32 (0), .int .u32 (0), .int .u32 (0), .int .u32 (0), .ptr 72 0, .nilptr, .ptr 42 0, .nilptr]), (42, .cells [.int .u32 (0), .int .u32 (0), .int .u32 (0), .int .u32 (0), .int .u32 (0), .int .u32 (0), .int .u32 (0), .int .u32 (0), .int .u32 (0), .int .u32 (0), .int .u32 (0), .bool true]), (41, .cells [.ptr 40 0]), (40, .cells [.int .i64 (1), .int .i64 (1), .ptr 34 0, .ptr 37 0, .ptr 38 0, .ptr 36 0, .ptr 39 0, .int .u32 (0), .int .u32 (0), .int .u32 (0), .int .u32 (0), .int .u32 (0), .int .u32 (0), .int .u32 (0), .int .u32 (0), .int .u32 (0), .int .u32 (0), .int .u32 (0), .int .u32 (0), .int .u32 (0), .bool true, .bool false, .bool false, .int .i64 (0), .bool false, .int .u32 (0), .int .u32 (0)]), (39, .cells [.nilsl, .nilsl, .int .i64 (0), .int .i64 (0), .bool true]), (38, .cells [.int .u32 (0), .int .u32 (0), .bool false, .bool false, .bool false, .bool false, .nilsl, .int .i64 (0), .nilsl, .bool true]), (37, .cells [.bool false, .int .u32 (0), .int .u32 (0), .bool false, .bool false, .int .u32 (0), .int .u32 (0), .bool false, .bool false, .int .u32 (0), .int .u32 (0), .bool false, .bool false, .int .u32 (0), .int .u32 (0), .bool false, .int .i64 (0), .bool true]), (36, .cells [.int .i64 (1), .map 35]), (35, .map []), (34, .cells [.rsl 33 1 0 64]), (33, .arr 1 [[.int .u8 (0)], [.int .u8 (0)], [.int .u8 (0)], [.int .u8 (0)], [.int .u8 (0)], [.int .u8 (0)], [.int .u8 (0)], [.int .u8 (0)], [.int .u8 (0)], [.int .u8 (0)], [.int .u8 (0)], [.int .u8 (0)], [.int .u8 (0)], [.int .u8 (0)], [.int .u8 (0)], [.int .u8 (0)], [.int .u8 (0)], [.int .u8 (0)], [.int .u8 (0)], [.int .u8 (0)], [.int .u8 (0)], [.int .u8 (0)], [.int .u8 (0)], [.int .u8 (0)], [.int .u8 (0)], [.int .u8 (0)], [.int .u8 (0)], [.int .u8 (0)], [.int .u8 (0)], [.int .u8 (0)], [.int .u8 (0)], [.int .u8 (0)], [.int .u8 (0)], [.int .u8 (0)], [.int .u8 (0)], [.int .u8 (0)], [.int .u8 (0)], [.int .u8 (0)], [.int .u8 (0)], [.int .u8 (0)], [.int .u8 (0)], [.int .u8 (0)], [.int .u8 (0)], [.int .u8 (0)], [.int .u8 (0)], [.int .u8 (0)], [.int .u8 (0)], [.int .u8 (0)], [.int .u8 (0)], [.int .u8 (0)], [.int .u8 (0)], [.int .u8 (0)], [.int .u8 (0)], [.int .u8 (0)], [.int .u8 (0)], [.int .u8 (0)], [.int .u8 (0)], [.int .u8 (0)], [.int .u8 (0)], [.int .u8 (0)], [.int .u8 (0)], [.int .u8 (0)], [.int .u8 (0)], [.int .u8 (0)]])] ++ sc1.heap, next := 73 }
def sca2 : List AV := [.iface 91 (.ptr 44 0), .agg [.int .i64 (4), .int .i64 (0), .sl false 1 [[.int .u8 (104)], [.int .u8 (105)]], .int .u32 (0)]]
def scr2 : Option (AEnd × Sto) := some (.ret (.tup [.agg [.int .i64 (0), .int .i64 (0), .int .i64 (0), .int .u32 (0), .int .u32 (0), .int .u32 (0), .nilsl], .int .i64 (0)]), sc4)
def scm2 : Memo := ⟨38, sca2, sc3, scr2⟩
-- FACT 2 level sc.22 handler 198 .func 38
def sc5 : Sto := { heap := [(72, .cells [.ptr 63 0]), (71, .cells [.nilsl, .nilsl, .int .i64 (0), .int .i64 (0), .bool true]), (70, .cells [.int .i64 (1), .map 69]), (69, .map []), (68, .cells [.int .u32 (0), .int .u32 (0), .bool false, .bool false, .bool false, .bool false, .sl true 1 [[.int .u8 (104)], [.int .u8 (105)]], .int .i64 (0), .nilsl, .bool true]), (67, .cells [.bool false, .int .u32 (0), .int .u32 (0), .bool false, .bool false, .int .u32 (0), .int .u32 (0), .bool false, .bool false, .int .u32 (0), .int .u32 (0), .bool false, .bool false, .int .u32 (0), .int .u32 (0), .bool false, .int .i64 (0), .bool true]), (66, .cells [.rsl 65 1 0 64]), (65, .arr 1 [[.int .u8 (0)], [.int .u8 (0)], [.int .u8 (0)], [.int .u8 (0)], [.int .u8 (0)], [.int .u8 (0)], [.int .u8 (0)], [.int .u8 (0)], [.int .u8 (0)], [.int .u8 (0)], [.int .u8 (0)], [.int .u8 (0)], [.int .u8 (0)], [.int .u8 (0)], [.int .u8 (0)], [.int .u8 (0)], [.int .u8 (0)], [.int .u8 (0)], [.int .u8 (0)], [.int .u8 (0)], [.int .u8 (0)], [.int .u8 (0)], [.int .u8 (0)], [.int .u8 (0)], [.int .u8 (0)], [.int .u8 (0)], [.int .u8 (0)], [.int .u8 (0)], [.int .u8 (0)], [.int .u8 (0)], [.int .u8 (0)], [.int .u8 (0)], [.int .u8 (0)], [.int .u8 (0)], [.int .u8 (0)], [.int .u8 (0)], [.int .u8 (0)], [.int .u8 (0)], [.int .u8 (0)], [.int .u8 (0)], [.int .u8 (0)], [.int .u8 (0)], [.int .u8 (0)], [.int .u8 (0)], [.int .u8 (0)], [.int .u8 (0)], [.int .u8 (0)], [.int .u8 (0)], [.int .u8 (0)], [.int .u8 (0)], [.int .u8 (0)], [.int .u8 (0)], [.int .u8 (0)], [.int .u8 (0)], [.int .u8 (0)], [.int .u8 (0)], [.int .u8 (0)], [.int .u8 (0)], [.int .u8 (0)], [.int .u8 (0)], [.int .u8 (0)], [.int .u8 (0)], [.int .u8 (0)], [.int .u8 (0)]]), (63, .cells [.int .i64 (1), .int .i64 (1), .ptr 66 0, .ptr 67 0, .ptr 68 0, .ptr 70 0, .ptr 71 0, .int .u32 (0), .int .u32 (0), .int .u32 (0), .int .u32 (0), .int .u32 (0), .int .u32 (0), .int .u32 (0), .int .u32 (0), .int .u32 (0), .int .u32 (0), .int .u32 (0), .int .u32 (0), .int .u32 (0), .bool true, .bool false, .bool false, .int .i64 (0), .bool false, .int .u32 (0), .int .u32 (0)]), (62, .cells [.sl false 1 [[.int .u8 (104)], [.int .u8 (105)]]]), (61, .cells [.fn (.func 57) [] []]), (60, .cells [.fn (.func 56) [] []]), (59, .cells [.fn (.func 55) [] []]), (58, .cells [.fn (.func 54) [] []]), (57, .cells [.fn (.func 53) [] []]), (56, .cells [.fn (.func 52) [] []]), (55, .cells [.fn (.func 51) [] []]), (54, .map [(.int .i64 (1), .agg [.int .i64 (0), .int .i64 (255), .int .i64 (1), .int .i64 (-1), .bool false, .fn (.func 49) [] []]), (.int .i64 (2), .agg [.int .i64 (0), .int .i64 (65535), .int .i64 (2), .int .i64 (255), .bool false, .fn (.func 85) [] [.ptr 55 0]]), (.int .i64 (3), .agg [.int .i64 (0), .int .i64 (255), .int .i64 (1), .int .i64 (64), .bool false, .fn (.func 85) [] [.ptr 56 0]]), (.int .i64 (4), .agg [.int .i64 (0), .int .i64 (0), .int .i64 (0), .int .i64 (255), .bool false, .fn (.func 85) [] [.ptr 57 0]]), (.int .i64 (5), .agg [.int .i64 (0), .int .i64 (0), .int .i64 (0), .int .i64 (64), .bool false, .fn (.func 85) [] [.ptr 58 0]]), (.int .i64 (6), .agg [.int .i64 (1), .int .i64 (4), .int .i64 (1), .int .i64 (-1), .bool true, .fn (.func 85) [] [.ptr 59 0]]), (.int .i64 (7), .agg [.int .i64 (1), .int .i64 (4), .int .i64 (1), .int .i64 (-1), .bool true, .fn (.func 85) [] [.ptr 60 0]]), (.int .i64 (8), .agg [.int .i64 (0), .int .i64 (0), .int .i64 (0), .int .i64 (-1), .bool true, .fn (.func 85) [] [.ptr 61 0]])]), (45, .cells [.sl true 1 [[.int .i64 (0)]], .nilsl, .int .i64 (0), .int .i64 (0), .bool false, .int .u32 (0), .int .u32 (0), .int .u32 (0), .int .u32 (0), .int .u32 (0), .int .u32 (0), .int .u32 (0), .int .u32 (0), .int .u32 (0), .int .u32 (0), .int .u32 (0), .int .u32 (0), .int .u32 (0), .bool false, .bool false, .bool false, .nilsl, .nilsl, .nilsl, .nilsl, .nilsl]), (44, .cells [.ptr 43 0]), (43, .cells [.int .i64 (1), .int .i64 (1), .bool false, .int .i64 (0), .int .u32 (0), .int .u32 (0), .int .u32 (0), .int .u32 (0), .int .u32 (0), .int .u32 (0), .int .u32 (0), .int .u32 (0), .int .u32 (0), .int .u32 (0), .int .u32 (0), .ptr 72 0, .nilptr, .ptr 42 0, .nilptr]), (42, .cells [.int .u32 (0), .int .u32 (0), .int .u32 (0), .int .u32 (0), .int .u32 (0), .int .u32 (0), .int .u32 (0), .int .u32 (0), .int .u32 (0), .int .u32 (0), .int .u32 (0), .bool true]), (41, .cells [.ptr 40 0]), (40, .cells [.int .i64 (1), .int .i64 (1), .ptr 34 0, .ptr 37 0, .ptr 38 0, .ptr 36 0, .ptr 39 0, .int .u32 (0), .int .u32 (0), .int .u32 (0), .int .u32 (0), .int .u32 (0), .int .u32 (0), .int .u32 (0), .int .u32 (0), .int .u32 (0), .int .u32 (0), .int .u32 (0), .int .u32 (0), .int .u32 (0), .bool true, .bool false, .bool false, .int .i64 (0), .bool false, .int .u32 (0), .int .u32 (0)]), (39, .cells [.nilsl, .nilsl, .int .i64 (0), .int .i64 (0), .bool true]), (38, .cells [.int .u32 (0), .int .u32 (0), .bool false, .bool false, .bool false, .bool false, .nilsl, .int .i64 (0), .nilsl, .bool true]), (37, .cells [.bool false, .int .u32 (0), .int .u32 (0), .bool false, .bool false, .int .u32 (0), .int .u32 (0), .bool false, .bool false, .int .u32 (0), .int .u32 (0), .bool false, .bool false, .int .u32 (0), .int .u32 (0), .bool false, .int .i64 (0), .bool true]), (36, .cells [.int .i64 (1), .map 35]), (35, .map []), (34, .cells [.rsl 33 1 0 64]), (33, .arr 1 [[.int .u8 (0)], [.int .u8 (0)], [.int .u8 (0)], [.int .u8 (0)], [.int .u8 (0)], [.int .u8 (0)], [.int .u8 (0)], [.int .u8 (0)], [.int .u8 (0)], [.int .u8 (0)], [.int .u8 (0)], [.int .u8 (0)], [.int .u8 (0)], [.int .u8 (0)], [.int .u8 (0)], [.int .u8 (0)], [.int .u8 (0)], [.int .u8 (0)], [.int .u8 (0)], [.int .u8 (0)], [.int .u8 (0)], [.int .u8 (0)], [.int .u8 (0)], [.int .u8 (0)], [.int .u8 (0)], [.int .u8 (0)], [.int .u8 (0)], [.int .u8 (0)], [.int .u8 (0)], [.int .u8 (0)], [.int .u8 (0)], [.int .u8 (0)], [.int .u8 (0)], [.int .u8 (0)], [.int .u8 (0)], [.int .u8 (0)], [.int .u8 (0)], [.int .u8 (0)], [.int .u8 (0)], [.int .u8 (0)], [.int .u8 (0)], [.int .u8 (0)], [.int .u8 (0)], [.int .u8 (0)], [.int .u8 (0)], [.int .u8 (0)], [.int .u8 (0)], [.int .u8 (0)], [.int .u8 (0)], [.int .u8 (0)], [.int .u8 (0)], [.int .u8 (0)], [.int .u8 (0)], [.int .u8 (0)], [.int .u8 (0)], [.int .u8 (0)], [.int .u8 (0)], [.int .u8 (0)], [.int .u8 (0)], [.int .u8 (0)], [.int .u8 (0)], [.int .u8 (0)], [.int .u8 (0)], [.int .u8 (0)]])] ++ sc1.heap, next := 73 }
def sc6 : Sto := { heap := [(167, .cells [.str [], .int .i64 (0)]), (166, .cells [.str [], .int .i64 (0)]), (165, .map [(.int .i64 (1), .int .i64 (1)), (.int .i64 (4), .int .i64 (1))]), (164, .cells [.int .u32 (0)]), (163, .cells [.ptr 154 0]), (160, .cells [.sl true 1 [[.fn (.func 264) [] [.ptr 158 0, .ptr 159 0]], [.fn (.func 265) [] [.ptr 158 0]], [.fn (.func 266) [] [.ptr 158 0]], [.fn (.func 267) [] [.ptr 158 0]]]]), (159, .cells [.int .i64 (2)]), (158, .cells [.ptr 149 0]), (157, .cells [.bool false]), (156, .cells [.int .i64 (0)]), (155, .cells [.ptr 149 0]), (154, .cells [.ptr 153 0, .int .i64 (1), .int .u32 (0), .int .u32 (0), .int .u32 (1), .sl true 3 [[.int .i64 (0), .int .i64 (0), .sl false 2 [[.int .i64 (7), .int .i64 (0)], [.int .i64 (8), .int .i64 (0)], [.int .i64 (9), .int .i64 (0)], [.int .i64 (2), .int .i64 (0)]]], [.int .i64 (0), .int .i64 (0), .sl false 2 [[.int .i64 (10), .int .i64 (0)], [.int .i64 (10), .int .i64 (1)], [.int .i64 (10), .int .i64 (2)], [.int .i64 (10), .int .i64 (3)]]], [.int .i64 (3), .int .i64 (0), .sl false 2 [[.int .i64 (2), .int .i64 (0)]]], [.int .i64 (4), .int .i64 (0), .nilsl], [.int .i64 (7), .int .i64 (0), .sl false 2 [[.int .i64 (7), .int .i64 (0)]]], [.int .i64 (0), .int .i64 (0), .sl false 2 [[.int .i64 (5), .int .i64 (0)]]], [.int .i64 (2), .int .i64 (0), .sl false 2 [[.int .i64 (5), .int .i64 (0)]]]]]), (153, .cells [.ptr 144 0]), (152, .cells [.nilsl, .nilsl, .int .i64 (0), .int .i64 (0), .bool true]), (151, .cells [.int .i64 (1), .map 150]), (150, .map []), (149, .cells [.int .u32 (0), .int .u32 (0), .bool false, .bool false, .bool false, .bool false, .sl true 1 [[.int .u8 (104)], [.int .u8 (105)]], .int .i64 (0), .nilsl, .bool true]), (148, .cells [.bool false, .int .u32 (0), .int .u32 (0), .bool false, .bool false, .int .u32 (0), .int .u32 (0), .bool false, .bool false, .int .u32 (0), .int .u32 (0), .bool false, .bool false, .int .u32 (0), .int .u32 (0), .bool false, .int .i64 (0), .bool true]), (147, .cells [.rsl 146 1 0 64]), (146, .arr 1 [[.int .u8 (0)], [.int .u8 (0)], [.int .u8 (0)], [.int .u8 (0)], [.int .u8 (0)], [.int .u8 (0)], [.int .u8 (0)], [.int .u8 (0)], [.int .u8 (0)], [.int .u8 (0)], [.int .u8 (0)], [.int .u8 (0)], [.int .u8 (0)], [.int .u8 (0)], [.int .u8 (0)], [.int .u8 (0)], [.int .u8 (0)], [.int .u8 (0)], [.int .u8 (0)], [.int .u8 (0)], [.int .u8 (0)], [.int .u8 (0)], [.int .u8 (0)], [.int .u8 (0)], [.int .u8 (0)], [.int .u8 (0)], [.int .u8 (0)], [.int .u8 (0)], [.int .u8 (0)], [.int .u8 (0)], [.int .u8 (0)], [.int .u8 (0)], [.int .u8 (0)], [.int .u8 (0)], [.int .u8 (0)], [.int .u8 (0)], [.int .u8 (0)], [.int .u8 (0)], [.int .u8 (0)], [.int .u8 (0)], [.int .u8 (0)], [.int .u8 (0)], [.int .u8 (0)], [.int .u8 (0)], [.int .u8 (0)], [.int .u8 (0)], [.int .u8 (0)], [.int .u8 (0)], [.int .u8 (0)], [.int .u8 (0)], [.int .u8 (0)], [.int .u8 (0)], [.int .u8 (0)], [.int .u8 (0)], [.int .u8 (0)], [.int .u8 (0)], [.int .u8 (0)], [.int .u8 (0)], [.int .u8 (0)], [.int .u8 (0)], [.int .u8 (0)], [.int .u8 (0)], [.int .u8 (0)], [.int .u8 (0)]]), (144, .cells [.int .i64 (1), .int .i64 (1), .ptr 147 0, .ptr 148 0, .ptr 149 0, .ptr 151 0, .ptr 152 0, .int .u32 (0), .int .u32 (0), .int .u32 (0), .int .u32 (0), .int .u32 (0), .int .u32 (0), .int .u32 (0), .int .u32 (0), .int .u32 (0), .int .u32 (0), .int .u32 (1), .int .u32 (0), .int .u32 (0), .bool true, .bool true, .bool false, .int .i64 (3), .bool false, .int .u32 (0), .int .u32 (0)]), (140, .cells [.str [], .int .i64 (0)]), (139, .cells [.str [], .int .i64 (0)]), (138, .map [(.int .i64 (1), .int .i64 (1)), (.int .i64 (4), .int .i64 (1))]), (137, .cells [.int .u32 (0)]), (136, .cells [.ptr 127 0]), (133, .cells [.sl true 1 [[.fn (.func 264) [] [.ptr 131 0, .ptr 132 0]], [.fn (.func 265) [] [.ptr 131 0]], [.fn (.func 266) [] [.ptr 131 0]], [.fn (.func 267) [] [.ptr 131 0]]]]), (132, .cells [.int .i64 (1)]), (131, .cells [.ptr 122 0]), (130, .cells [.bool false]), (129, .cells [.int .i64 (0)]), (128, .cells [.ptr 122 0]), (127, .cells [.ptr 126 0, .int .i64 (1), .int .u32 (0), .int .u32 (0), .int .u32 (1), .sl true 3 [[.int .i64 (0), .int .i64 (0), .sl false 2 [[.int .i64 (7), .int .i64 (0)], [.int .i64 (8), .int .i64 (0)], [.int .i64 (9), .int .i64 (0)], [.int .i64 (2), .int .i64 (0)]]], [.int .i64 (0), .int .i64 (0), .sl false 2 [[.int .i64 (10), .int .i64 (0)], [.int .i64 (10), .int .i64 (1)], [.int .i64 (10), .int .i64 (2)], [.int .i64 (10), .int .i64 (3)]]], [.int .i64 (3), .int .i64 (0), .sl false 2 [[.int .i64 (2), .int .i64 (0)]]], [.int .i64 (4), .int .i64 (0), .nilsl], [.int .i64 (7), .int .i64 (0), .sl false 2 [[.int .i64 (7), .int .i64 (0)]]], [.int .i64 (0), .int .i64 (0), .sl false 2 [[.int .i64 (5), .int .i64 (0)]]], [.int .i64 (2), .int .i64 (0), .sl false 2 [[.int .i64 (5), .int .i64 (0)]]]]]), (126, .cells [.ptr 117 0]), (125, .cells [.nilsl, .nilsl, .int .i64 (0), .int .i64 (0), .bool true]), (124, .cells [.int .i64 (1), .map 123]), (123, .map []), (122, .cells [.int .u32 (0), .int .u32 (0), .bool false, .bool false, .bool false, .bool false, .sl true 1 [[.int .u8 (104)], [.int .u8 (105)]], .int .i64 (0), .nilsl, .bool true]), (121, .cells [.bool false, .int .u32 (0), .int .u32 (0), .bool false, .bool false, .int .u32 (0), .int .u32 (0), .bool false, .bool false, .int .u32 (0), .int .u32 (0), .bool false, .bool false, .int .u32 (0), .int .u32 (0), .bool false, .int .i64 (0), .bool true]), (120, .cells [.rsl 119 1 0 64]), (119, .arr 1 [[.int .u8 (0)], [.int .u8 (0)], [.int .u8 (0)], [.int .u8 (0)], [.int .u8 (0)], [.int .u8 (0)], [.int .u8 (0)], [.int .u8 (0)], [.int .u8 (0)], [.int .u8 (0)], [.int .u8 (0)], [.int .u8 (0)], [.int .u8 (0)], [.int .u8 (0)], [.int .u8 (0)], [.int .u8 (0)], [.int .u8 (0)], [.int .u8 (0)], [.int .u8 (0)], [.int .u8 (0)], [.int .u8 (0)], [.int .u8 (0)], [.int .u8 (0)], [.int .u8 (0)], [.int .u8 (0)], [.int .u8 (0)], [.int .u8 (0)], [.int .u8 (0)], [.int .u8 (0)], [.int .u8 (0)], [.int .u8 (0)], [.int .u8 (0)], [.int .u8 (0)], [.int .u8 (0)], [.int .u8 (0)], [.int .u8 (0)], [.int .u8 (0)], [.int .u8 (0)], [.int .u8 (0)], [.int .u8 (0)], [.int .u8 (0)], [.int .u8 (0)], [.int .u8 (0)], [.int .u8 (0)], [.int .u8 (0)], [.int .u8 (0)], [.int .u8 (0)], [.int .u8 (0)], [.int .u8 (0)], [.int .u8 (0)], [.int .u8 (0)], [.int .u8 (0)], [.int .u8 (0)], [.int .u8 (0)], [.int .u8 (0)], [.int .u8 (0)], [.int .u8 (0)], [.int .u8 (0)], [.int .u8 (0)], [.int .u8 (0)], [.int .u8 (0)], [.int .u8 (0)], [.int .u8 (0)], [.int .u8 (0)]]), (117, .cells [.int .i64 (1), .int .i64 (1), .ptr 120 0, .ptr 121 0, .ptr 122 0, .ptr 124 0, .ptr 125 0, .int .u32 (0), .int .u32 (0), .int .u32 (0), .int .u32 (0), .int .u32 (0), .int .u32 (0), .int .u32 (0), .int .u32 (0), .int .u32 (0), .int .u32 (0), .int .u32 (1), .int .u32 (0), .int .u32 (0), .bool true, .bool true, .bool false, .int .i64 (2), .bool false, .int .u32 (0), .int .u32 (0)]), (113, .cells [.str [], .int .i64 (0)]), (112, .cells [.str [], .int .i64 (0)]), (111, .map [(.int .i64 (1), .int .i64 (1)), (.int .i64 (4), .int .i64 (1))]), (110, .cells [.int .u32 (0)]), (109, .cells [.ptr 100 0]), (106, .cells [.sl true 1 [[.fn (.func 264) [] [.ptr 104 0, .ptr 105 0]], [.fn (.func 265) [] [.ptr 104 0]], [.fn (.func 266) [] [.ptr 104 0]], [.fn (.func 267) [] [.ptr 104 0]]]]), (105, .cells [.int .i64 (0)]), (104, .cells [.ptr 95 0]), (103, .cells [.bool false]), (102, .cells [.int .i64 (0)]), (101, .cells [.ptr 95 0]), (100, .cells [.ptr 99 0, .int .i64 (1), .int .u32 (0), .int .u32 (0), .int .u32 (1), .sl true 3 [[.int .i64 (0), .int .i64 (0), .sl false 2 [[.int .i64 (7), .int .i64 (0)], [.int .i64 (8), .int .i64 (0)], [.int .i64 (9), .int .i64 (0)], [.int .i64 (2), .int .i64 (0)]]], [.int .i64 (0), .int .i64 (0), .sl false 2 [[.int .i64 (10), .int .i64 (0)], [.int .i64 (10), .int .i64 (1)], [.int .i64 (10), .int .i64 (2)], [.int .i64 (10), .int .i64 (3)]]], [.int .i64 (3), .int .i64 (0), .sl false 2 [[.int .i64 (2), .int .i64 (0)]]], [.int .i64 (4), .int .i64 (0), .nilsl], [.int .i64 (7), .int .i64 (0), .sl false 2 [[.int .i64 (7), .int .i64 (0)]]], [.int .i64 (0), .int .i64 (0), .sl false 2 [[.int .i64 (5), .int .i64 (0)]]], [.int .i64 (2), .int .i64 (0), .sl false 2 [[.int .i64 (5), .int .i64 (0)]]]]]), (99, .cells [.ptr 90 0]), (98, .cells [.nilsl, .nilsl, .int .i64 (0), .int .i64 (0), .bool true]), (97, .cells [.int .i64 (1), .map 96]), (96, .map []), (95, .cells [.int .u32 (0), .int .u32 (0), .bool false, .bool false, .bool false, .bool false, .sl true 1 [[.int .u8 (104)], [.int .u8 (105)]], .int .i64 (0), .nilsl, .bool true]), (94, .cells [.bool false, .int .u32 (0), .int .u32 (0), .bool false, .bool false, .int .u32 (0), .int .u32 (0), .bool false, .bool false, .int .u32 (0), .int .u32 (0), .bool false, .bool false, .int .u32 (0), .int .u32 (0), .bool false, .int .i64 (0), .bool true]), (93, .cells [.rsl 92 1 0 64]), (92, .arr 1 [[.int .u8 (0)], [.int .u8 (0)], [.int .u8 (0)], [.int .u8 (0)], [.int .u8 (0)], [.int .u8 (0)], [.int .u8 (0)], [.int .u8 (0)], [.int .u8 (0)], [.int .u8 (0)], [.int .u8 (0)], [.int .u8 (0)], [.int .u8 (0)], [.int .u8 (0)], [.int .u8 (0)], [.int .u8 (0)], [.int .u8 (0)], [.int .u8 (0)], [.int .u8 (0)], [.int .u8 (0)], [.int .u8 (0)], [.int .u8 (0)], [.int .u8 (0)], [.int .u8 (0)], [.int .u8 (0)], [.int .u8 (0)], [.int .u8 (0)], [.int .u8 (0)], [.int .u8 (0)], [.int .u8 (0)], [.int .u8 (0)], [.int .u8 (0)], [.int .u8 (0)], [.int .u8 (0)], [.int .u8 (0)], [.int .u8 (0)], [.int .u8 (0)], [.int .u8 (0)], [.int .u8 (0)], [.int .u8 (0)], [.int .u8 (0)], [.int .u8 (0)], [.int .u8 (0)], [.int .u8 (0)], [.int .u8 (0)], [.int .u8 (0)], [.int .u8 (0)], [.int .u8 (0)], [.int .u8 (0)], [.int .u8 (0)], [.int .u8 (0)], [.int .u8 (0)], [.int .u8 (0)], [.int .u8 (0)], [.int .u8 (0)], [.int .u8 (0)], [.int .u8 (0)], [.int .u8 (0)], [.int .u8 (0)], [.int .u8 (0)], [.int .u8 (0)], [.int .u8 (0)], [.int .u8 (0)], [.int .u8 (0)]]), (90, .cells [.int .i64 (1), .int .i64 (1), .ptr 93 0, .ptr 94 0, .ptr 95 0, .ptr 97 0, .ptr 98 0, .int .u32 (0), .int .u32 (0), .int .u32 (0), .int .u32 (0), .int .u32 (0), .int .u32 (0), .int .u32 (0), .int .u32 (0), .int .u32 (0), .int .u32 (0), .int .u32 (1), .int .u32 (0), .int .u32 (0), .bool true, .bool true, .bool false, .int .i64 (1), .bool false, .int .u32 (0), .int .u32 (0)]), (89, .cells [.int .i64 (3), .int .i64 (0), .int .i64 (1), .int .u32 (0), .int .u32 (0), .int .u32 (1), .nilsl]), (88, .cells [.fn (.func 57) [] []]), (87, .cells [.fn (.func 56) [] []]), (86, .cells [.fn (.func 55) [] []]), (85, .cells [.fn (.func 54) [] []]), (84, .cells [.fn (.func 53) [] []]), (83, .cells [.fn (.func 52) [] []]), (82, .cells [.fn (.func 51) [] []]), (81, .map [(.int .i64 (1), .agg [.int .i64 (0), .int .i64 (255), .int .i64 (1), .int .i64 (-1), .bool false, .fn (.func 49) [] []]), (.int .i64 (2), .agg [.int .i64 (0), .int .i64 (65535), .int .i64 (2), .int .i64 (255), .bool false, .fn (.func 85) [] [.ptr 82 0]]), (.int .i64 (3), .agg [.int .i64 (0), .int .i64 (255), .int .i64 (1), .int .i64 (64), .bool false, .fn (.func 85) [] [.ptr 83 0]]), (.int .i64 (4), .agg [.int .i64 (0), .int .i64 (0), .int .i64 (0), .int .i64 (255), .bool false, .fn (.func 85) [] [.ptr 84 0]]), (.int .i64 (5), .agg [.int .i64 (0), .int .i64 (0), .int .i64 (0), .int .i64 (64), .bool false, .fn (.func 85) [] [.ptr 85 0]]), (.int .i64 (6), .agg [.int .i64 (1), .int .i64 (4), .int .i64 (1), .int .i64 (-1), .bool true, .fn (.func 85) [] [.ptr 86 0]]), (.int .i64 (7), .agg [.int .i64 (1), .int .i64 (4), .int .i64 (1), .int .i64 (-1), .bool true, .fn (.func 85) [] [.ptr 87 0]]), (.int .i64 (8), .agg [.int .i64 (0), .int .i64 (0), .int .i64 (0), .int .i64 (-1), .bool true, .fn (.func 85) [] [.ptr 88 0]])]), (72, .cells [.ptr 63 0]), (71, .cells [.nilsl, .nilsl, .int .i64 (0), .int .i64 (0), .bool true]), (70, .cells [.int .i64 (1), .map 69]), (69, .map []), (68, .cells [.int .u32 (0), .int .u32 (0), .bool false, .bool false, .bool false, .bool false, .sl true 1 [[.int .u8 (104)], [.int .u8 (105)]], .int .i64 (0), .nilsl, .bool true]), (67, .cells [.bool false, .int .u32 (0), .int .u32 (0), .bool false, .bool false, .int .u32 (0), .int .u32 (0), .bool false, .bool false, .int .u32 (0), .int .u32 (0), .bool false, .bool false, .int .u32 (0), .int .u32 (0), .bool false, .int .i64 (0), .bool true]), (66, .cells [.rsl 65 1 0 64]), (65, .arr 1 [[.int .u8 (0)], [.int .u8 (0)], [.int .u8 (0)], [.int .u8 (0)], [.int .u8 (0)], [.int .u8 (0)], [.int .u8 (0)], [.int .u8 (0)], [.int .u8 (0)], [.int .u8 (0)], [.int .u8 (0)], [.int .u8 (0)], [.int .u8 (0)], [.int .u8 (0)], [.int .u8 (0)], [.int .u8 (0)], [.int .u8 (0)], [.int .u8 (0)], [.int .u8 (0)], [.int .u8 (0)], [.int .u8 (0)], [.int .u8 (0)], [.int .u8 (0)], [.int .u8 (0)], [.int .u8 (0)], [.int .u8 (0)], [.int .u8 (0)], [.int .u8 (0)], [.int .u8 (0)], [.int .u8 (0)], [.int .u8 (0)], [.int .u8 (0)], [.int .u8 (0)], [.int .u8 (0)], [.int .u8 (0)], [.int .u8 (0)], [.int .u8 (0)], [.int .u8 (0)], [.int .u8 (0)], [.int .u8 (0)], [.int .u8 (0)], [.int .u8 (0)], [.int .u8 (0)], [.int .u8 (0)], [.int .u8 (0)], [.int .u8 (0)], [.int .u8 (0)], [.int .u8 (0)], [.int .u8 (0)], [.int .u8 (0)], [.int .u8 (0)], [.int .u8 (0)], [.int .u8 (0)], [.int .u8 (0)], [.int .u8 (0)], [.int .u8 (0)], [.int .u8 (0)], [.int .u8 (0)], [.int .u8 (0)], [.int .u8 (0)], [.int .u8 (0)], [.int .u8 (0)], [.int .u8 (0)], [.int .u8 (0)]]), (63, .cells [.int .i64 (1), .int .i64 (1), .ptr 66 0, .ptr 67 0, .ptr 68 0, .ptr 70 0, .ptr 71 0, .int .u32 (0), .int .u32 (0), .int .u32 (0), .int .u32 (0), .int .u32 (0), .int .u32 (0), .int .u32 (0), .int .u32 (0), .int .u32 (0), .int .u32 (0), .int .u32 (0), .int .u32 (0), .int .u32 (0), .bool true, .bool false, .bool false, .int .i64 (0), .bool false, .int .u32 (0), .int .u32 (0)]), (62, .cells [.sl false 1 [[.int .u8 (104)], [.int .u8 (105)]]]), (61, .cells [.fn (.func 57) [] []]), (60, .cells [.fn (.func 56) [] []]), (59, .cells [.fn (.func 55) [] []]), (58, .cells [.fn (.func 54) [] []]), (57, .cells [.fn (.func 53) [] []]), (56, .cells [.fn (.func 52) [] []]), (55, .cells [.fn (.func 51) [] []]), (54, .map [(.int .i64 (1), .agg [.int .i64 (0), .int .i64 (255), .int .i64 (1), .int .i64 (-1), .bool false, .fn (.func 49) [] []]), (.int .i64 (2), .agg [.int .i64 (0), .int .i64 (65535), .int .i64 (2), .int .i64 (255), .bool false, .fn (.func 85) [] [.ptr 55 0]]), (.int .i64 (3), .agg [.int .i64 (0), .int .i64 (255), .int .i64 (1), .int .i64 (64), .bool false, .fn (.func 85) [] [.ptr 56 0]]), (.int .i64 (4), .agg [.int .i64 (0), .int .i64 (0), .int .i64 (0), .int .i64 (255), .bool false, .fn (.func 85) [] [.ptr 57 0]]), (.int .i64 (5), .agg [.int .i64 (0), .int .i64 (0), .int .i64 (0), .int .i64 (64), .bool false, .fn (.func 85) [] [.ptr 58 0]]), (.int .i64 (6), .agg [.int .i64 (1), .int .i64 (4), .int .i64 (1), .int .i64 (-1), .bool true, .fn (.func 85) [] [.ptr 59 0]]), (.int .i64 (7), .agg [.int .i64 (1), .int .i64 (4), .int .i64 (1), .int .i64 (-1), .bool true, .fn (.func 85) [] [.ptr 60 0]]), (.int .i64 (8), .agg [.int .i64 (0), .int .i64 (0), .int .i64 (0), .int .i64 (-1), .bool true, .fn (.func 85) [] [.ptr 61 0]])]), (45, .cells [.sl true 1 [[.int .i64 (0)]], .nilsl, .int .i64 (0), .int .i64 (0), .bool false, .int .u32 (0), .int .u32 (0), .int .u32 (0), .int .u32 (0), .int .u32 (0), .int .u32 (0), .int .u32 (0), .int .u32 (0), .int .u32 (0), .int .u32 (0), .int .u32 (0), .int .u32 (0), .int .u32 (0), .bool false, .bool false, .bool false, .nilsl, .nilsl, .nilsl, .nilsl, .nilsl]), (44, .cells [.ptr 43 0]), (43, .cells [.int .i64 (1), .int .i64 (1), .bool false, .int .i64 (0), .int .u32 (0), .int .u32 (0), .int .u32 (0), .int .u32 (0), .int .u32 (0), .int .u32 (0), .int .u32 (0), .int .u32 (0), .int .u32 (0), .int .u32 (0), .int .u32 (0), .ptr 153 0, .nilptr, .ptr 42 0, .nilptr]), (42, .cells [.int .u32 (0), .int .u32 (0), .int .u32 (0), .int .u32 (0), .int .u32 (0), .int .u32 (0), .int .u32 (0), .int .u32 (0), .int .u32 (0), .int .u32 (0), .int .u32 (0), .bool true]), (41, .cells [.ptr 40 0]), (40, .cells [.int .i64 (1), .int .i64 (1), .ptr 34 0, .ptr 37 0, .ptr 38 0, .ptr 36 0, .ptr 39 0, .int .u32 (0), .int .u32 (0), .int .u32 (0), .int .u32 (0), .int .u32 (0), .int .u32 (0), .int .u32 (0), .int .u32 (0), .int .u32 (0), .int .u32 (0), .int .u32 (0), .int .u32 (0), .int .u32 (0), .bool true, .bool false, .bool false, .int .i64 (0), .bool false, .int .u32 (0), .int .u32 (0)]), (39, .cells [.nilsl, .nilsl, .int .i64 (0), .int .i64 (0), .bool true]), (38, .cells [.int .u32 (0), .int .u32 (0), .bool false, .bool false, .bool false, .bool false, .nilsl, .int .i64 (0), .nilsl, .bool true]), (37, .cells [.bool false, .int .u32 (0), .int .u32 (0), .bool false, .bool false, .int .u32 (0), .int .u32 (0), .bool false, .bool false, .int .u32 (0), .int .u32 (0), .bool false, .bool false, .int .u32 (0), .int .u32 (0), .bool false, .int .i64 (0), .bool true]), (36, .cells [.int .i64 (1), .map 35]), (35, .map []), (34, .cells [.rsl 33 1 0 64]), (33, .arr 1 [[.int .u8 (0)], [.int .u8 (0)], [.int .u8 (0)], [.int .u8 (0)], [.int .u8 (0)], [.int .u8 (0)], [.int .u8 (0)], [.int .u8 (0)], [.int .u8 (0)], [.int .u8 (0)], [.int .u8 (0)], [.int .u8 (0)], [.int .u8 (0)], [.int .u8 (0)], [.int .u8 (0)], [.int .u8 (0)], [.int .u8 (0)], [.int .u8 (0)], [.int .u8 (0)], [.int .u8 (0)], [.int .u8 (0)], [.int .u8 (0)], [.int .u8 (0)], [.int .u8 (0)], [.int .u8 (0)], [.int .u8 (0)], [.int .u8 (0)], [.int .u8 (0)], [.int .u8 (0)], [.int .u8 (0)], [.int .u8 (0)], [.int .u8 (0)], [.int .u8 (0)], [.int .u8 (0)], [.int .u8 (0)], [.int .u8 (0)], [.int .u8 (0)], [.int .u8 (0)], [.int .u8 (0)], [.int .u8 (0)], [.int .u8 (0)], [.int .u8 (0)], [.int .u8 (0)], [.int .u8 (0)], [.int .u8 (0)], [.int .u8 (0)], [.int .u8 (0)], [.int .u8 (0)], [.int .u8 (0)], [.int .u8 (0)], [.int .u8 (0)], [.int .u8 (0)], [.int .u8 (0)], [.int .u8 (0)], [.int .u8 (0)], [.int .u8 (0)], [.int .u8 (0)], [.int .u8 (0)], [.int .u8 (0)], [.int .u8 (0)], [.int .u8 (0)], [.int .u8 (0)], [.int .u8 (0)], [.int .u8 (0)]])] ++ sc1.heap, next := 171 }
def sca3 : List AV := [.iface 91 (.ptr 44 0), .agg [.int .i64 (1), .int .i64 (3), .nilsl, .int .u32 (0)]]
def scr3 : Option (AEnd × Sto) := some (.ret (.tup [.agg [.int .i64 (3), .int .i64 (0), .int .i64 (1), .int .u32 (0), .int .u32 (0), .int .u32 (1), .nilsl], .int .i64 (0)]), sc6)
def scm3 : Memo := ⟨38, sca3, sc5, scr3⟩
-- FACT 3 level sc.22 handler 198 .func 38
def sc7 : Sto := { heap := [(167, .cells [.str [], .int .i64 (0)]), (166, .cells [.str [], .int .i64 (0)]), (165, .map [(.int .i64 (1), .int .i64 (1)), (.int .i64 (4), .int .i64 (1))]), (164, .cells [.int .u32 (0)]), (163, .cells [.ptr 154 0]), (160, .cells [.sl true 1 [[.fn (.func 264) [] [.ptr 158 0, .ptr 159 0]], [.fn (.func 265) [] [.ptr 158 0]], [.fn (.func 266) [] [.ptr 158 0]], [.fn (.func 267) [] [.ptr 158 0]]]]), (159, .cells [.int .i64 (2)]), (158, .cells [.ptr 149 0]), (157, .cells [.bool false]), (156, .cells [.int .i64 (0)]), (155, .cells [.ptr 149 0]), (154, .cells [.ptr 153 0, .int .i64 (1), .int .u32 (0), .int .u32 (0), .int .u32 (1), .sl true 3 [[.int .i64 (0), .int .i64 (0), .sl false 2 [[.int .i64 (7), .int .i64 (0)], [.int .i64 (8), .int .i64 (0)], [.int .i64 (9), .int .i64 (0)], [.int .i64 (2), .int .i64 (0)]]], [.int .i64 (0), .int .i64 (0), .sl false 2 [[.int .i64 (10), .int .i64 (0)], [.int .i64 (10), .int .i64 (1)], [.int .i64 (10), .int .i64 (2)], [.int .i64 (10), .int .i64 (3)]]], [.int .i64 (3), .int .i64 (0), .sl false 2 [[.int .i64 (2), .int .i64 (0)]]], [.int .i64 (4), .int .i64 (0), .nilsl], [.int .i64 (7), .int .i64 (0), .sl false 2 [[.int .i64 (7), .int .i64 (0)]]], [.int .i64 (0), .int .i64 (0), .sl false 2 [[.int .i64 (5), .int .i64 (0)]]], [.int .i64 (2), .int .i64 (0), .sl false 2 [[.int .i64 (5), .int .i64 (0)]]]]]), (153, .cells [.ptr 144 0]), (152, .cells [.nilsl, .nilsl, .int .i64 (0), .int .i64 (0), .bool true]), (151, .cells [.int .i64 (1), .map 150]), (150, .map []), (149, .cells [.int .u32 (0), .int .u32 (0), .bool false, .bool false, .bool false, .bool false, .sl true 1 [[.int .u8 (104)], [.int .u8 (105)]], .int .i64 (0), .nilsl, .bool true]), (148, .cells [.bool false, .int .u32 (0), .int .u32 (0), .bool false, .bool false, .int .u32 (0), .int .u32 (0), .bool false, .bool false, .int .u32 (0), .int .u32 (0), .bool false, .bool false, .int .u32 (0), .int .u32 (0), .bool false, .int .i64 (0), .bool true]), (147, .cells [.rsl 146 1 0 64]), (146, .arr 1 [[.int .u8 (0)], [.int .u8 (0)], [.int .u8 (0)], [.int .u8 (0)], [.int .u8 (0)], [.int .u8 (0)], [.int .u8 (0)], [.int .u8 (0)], [.int .u8 (0)], [.int .u8 (0)], [.int .u8 (0)], [.int .u8 (0)], [.int .u8 (0)], [.int .u8 (0)], [.int .u8 (0)], [.int .u8 (0)], [.int .u8 (0)], [.int .u8 (0)], [.int .u8 (0)], [.int .u8 (0)], [.int .u8 (0)], [.int .u8 (0)], [.int .u8 (0)], [.int .u8 (0)], [.int .u8 (0)], [.int .u8 (0)], [.int .u8 (0)], [.int .u8 (0)], [.int .u8 (0)], [.int .u8 (0)], [.int .u8 (0)], [.int .u8 (0)], [.int .u8 (0)], [.int .u8 (0)], [.int .u8 (0)], [.int .u8 (0)], [.int .u8 (0)], [.int .u8 (0)], [.int .u8 (0)], [.int .u8 (0)], [.int .u8 (0)], [.int .u8 (0)], [.int .u8 (0)], [.int .u8 (0)], [.int .u8 (0)], [.int .u8 (0)], [.int .u8 (0)], [.int .u8 (0)], [.int .u8 (0)], [.int .u8 (0)], [.int .u8 (0)], [.int .u8 (0)], [.int .u8 (0)], [.int .u8 (0)], [.int .u8 (0)], [.int .u8 (0)], [.int .u8 (0)], [.int .u8 (0)], [.int .u8 (0)], [.int .u8 (0)], [.int .u8 (0)], [.int .u8 (0)], [.int .u8 (0)], [.int .u8 (0)]]), (144, .cells [.int .i64 (1), .int .i64 (1), .ptr 147 0, .ptr 148 0, .ptr 149 0, .ptr 151 0, .ptr 152 0, .int .u32 (0), .int .u32 (0), .int .u32 (0), .int .u32 (0), .int .u32 (0), .int .u32 (0), .int .u32 (0), .int .u32 (0), .int .u32 (0), .int .u32 (0), .int .u32 (1), .int .u32 (0), .int .u32 (0), .bool true, .bool true, .bool false, .int .i64 (3), .bool false, .int .u32 (0), .int .u32 (0)]), (140, .cells [.str [], .int .i64 (0)]), (139, .cells [.str [], .int .i64 (0)]), (138, .map [(.int .i64 (1), .int .i64 (1)), (.int .i64 (4), .int .i64 (1))]), (137, .cells [.int .u32 (0)]), (136, .cells [.ptr 127 0]), (133, .cells [.sl true 1 [[.fn (.func 264) [] [.ptr 131 0, .ptr 132 0]], [.fn (.func 265) [] [.ptr 131 0]], [.fn (.func 266) [] [.ptr 131 0]], [.fn (.func 267) [] [.ptr 131 0]]]]), (132, .cells [.int .i64 (1)]), (131, .cells [.ptr 122 0]), (130, .cells [.bool false]), (129, .cells [.int .i64 (0)]), (128, .cells [.ptr 122 0]), (127, .cells [.ptr 126 0, .int .i64 (1), .int .u32 (0), .int .u32 (0), .int .u32 (1), .sl true 3 [[.int .i64 (0), .int .i64 (0), .sl false 2 [[.int .i64 (7), .int .i64 (0)], [.int .i64 (8), .int .i64 (0)], [.int .i64 (9), .int .i64 (0)], [.int .i64 (2), .int .i64 (0)]]], [.int .i64 (0), .int .i64 (0), .sl false 2 [[.int .i64 (10), .int .i64 (0)], [.int .i64 (10), .int .i64 (1)], [.int .i64 (10), .int .i64 (2)], [.int .i64 (10), .int .i64 (3)]]], [.int .i64 (3), .int .i64 (0), .sl false 2 [[.int .i64 (2), .int .i64 (0)]]], [.int .i64 (4), .int .i64 (0), .nilsl], [.int .i64 (7), .int .i64 (0), .sl false 2 [[.int .i64 (7), .int .i64 (0)]]], [.int .i64 (0), .int .i64 (0), .sl false 2 [[.int .i64 (5), .int .i64 (0)]]], [.int .i64 (2), .int .i64 (0), .sl false 2 [[.int .i64 (5), .int .i64 (0)]]]]]), (126, .cells [.ptr 117 0]), (125, .cells [.nilsl, .nilsl, .int .i64 (0), .int .i64 (0), .bool true]), (124, .cells [.int .i64 (1), .map 123]), (123, .map []), (122, .cells [.int .u32 (0), .int .u32 (0), .bool false, .bool false, .bool false, .bool false, .sl true 1 [[.int .u8 (104)], [.int .u8 (105)]], .int .i64 (0), .nilsl, .bool true]), (121, .cells [.bool false, .int .u32 (0), .int .u32 (0), .bool false, .bool false, .int .u32 (0), .int .u32 (0), .bool false, .bool false, .int .u32 (0), .int .u32 (0), .bool false, .bool false, .int .u32 (0), .int .u32 (0), .bool false, .int .i64 (0), .bool true]), (120, .cells [.rsl 119 1 0 64]), (119, .arr 1 [[.int .u8 (0)], [.int .u8 (0)], [.int .u8 (0)], [.int .u8 (0)], [.int .u8 (0)], [.int .u8 (0)], [.int .u8 (0)], [.int .u8 (0)], [.int .u8 (0)], [.int .u8 (0)], [.int .u8 (0)], [.int .u8 (0)], [.int .u8 (0)], [.int .u8 (0)], [.int .u8 (0)], [.int .u8 (0)], [.int .u8 (0)], [.int .u8 (0)], [.int .u8 (0)], [.int .u8 (0)], [.int .u8 (0)], [.int .u8 (0)], [.int .u8 (0)], [.int .u8 (0)], [.int .u8 (0)], [.int .u8 (0)], [.int .u8 (0)], [.int .u8 (0)], [.int .u8 (0)], [.int .u8 (0)], [.int .u8 (0)], [.int .u8 (0)], [.int .u8 (0)], [.int .u8 (0)], [.int .u8 (0)], [.int .u8 (0)], [.int .u8 (0)], [.int .u8 (0)], [.int .u8 (0)], [.int .u8 (0)], [.int .u8 (0)], [.int .u8 (0)], [.int .u8 (0)], [.int .u8 (0)], [.int .u8 (0)], [.int .u8 (0)], [.int .u8 (0)], [.int .u8 (0)], [.int .u8 (0)], [.int .u8 (0)], [.int .u8 (0)], [.int .u8 (0)], [.int .u8 (0)], [.int .u8 (0)], [.int .u8 (0)], [.int .u8 (0)], [.int .u8 (0)], [.int .u8 (0)], [.int .u8 (0)], [.int .u8 (0)], [.int .u8 (0)], [.int .u8 (0)], [.int .u8 (0)], [.int .u8 (0)]]), (117, .cells [.int .i64 (1), .int .i64 (1), .ptr 120 0, .ptr 121 0, .ptr 122 0, .ptr 124 0, .ptr 125 0, .int .u32 (0), .int .u32 (0), .int .u32 (0), .int .u32 (0), .int .u32 (0), .int .u32 (0), .int .u32 (0), .int .u32 (0), .int .u32 (0), .int .u32 (0), .int .u32 (1), .int .u32 (0), .int .u32 (0), .bool true, .bool true, .bool false, .int .i64 (2), .bool false, .int .u32 (0), .int .u32 (0)]), (113, .cells [.str [], .int .i64 (0)]), (112, .cells [.str [], .int .i64 (0)]), (111, .map [(.int .i64 (1), .int .i64 (1)), (.int .i64 (4), .int .i64 (1))]), (110, .cells [.int .u32 (0)]), (109, .cells [.ptr 100 0]), (106, .cells [.sl true 1 [[.fn (.func 264) [] [.ptr 104 0, .ptr 105 0]], [.fn (.func 265) [] [.ptr 104 0]], [.fn (.func 266) [] [.ptr 104 0]], [.fn (.func 267) [] [.ptr 104 0]]]]), (105, .cells [.int .i64 (0)]), (104, .cells [.ptr 95 0]), (103, .cells [.bool false]), (102, .cells [.int .i64 (0)]), (101, .cells [.ptr 95 0]), (100, .cells [.ptr 99 0, .int .i64 (1), .int .u32 (0), .int .u32 (0), .int .u32 (1), .sl true 3 [[.int .i64 (0), .int .i64 (0), .sl false 2 [[.int .i64 (7), .int .i64 (0)], [.int .i64 (8), .int .i64 (0)], [.int .i64 (9), .int .i64 (0)], [.int .i64 (2), .int .i64 (0)]]], [.int .i64 (0), .int .i64 (0), .sl false 2 [[.int .i64 (10), .int .i64 (0)], [.int .i64 (10), .int .i64 (1)], [.int .i64 (10), .int .i64 (2)], [.int .i64 (10), .int .i64 (3)]]], [.int .i64 (3), .int .i64 (0), .sl false 2 [[.int .i64 (2), .int .i64 (0)]]], [.int .i64 (4), .int .i64 (0), .nilsl], [.int .i64 (7), .int .i64 (0), .sl false 2 [[.int .i64 (7), .int .i64 (0)]]], [.int .i64 (0), .int .i64 (0), .sl false 2 [[.int .i64 (5), .int .i64 (0)]]], [.int .i64 (2), .int .i64 (0), .sl false 2 [[.int .i64 (5), .int .i64 (0)]]]]]), (99, .cells [.ptr 90 0]), (98, .cells [.nilsl, .nilsl, .int .i64 (0), .int .i64 (0), .bool true]), (97, .cells [.int .i64 (1), .map 96]), (96, .map []), (95, .cells [.int .u32 (0), .int .u32 (0), .bool false, .bool false, .bool false, .bool false, .sl true 1 [[.int .u8 (104)], [.int .u8 (105)]], .int .i64 (0), .nilsl, .bool true]), (94, .cells [.bool false, .int .u32 (0), .int .u32 (0), .bool false, .bool false, .int .u32 (0), .int .u32 (0), .bool false, .bool false, .int .u32 (0), .int .u32 (0), .bool false, .bool false, .int .u32 (0), .int .u32 (0), .bool false, .int .i64 (0), .bool true]), (93, .cells [.rsl 92 1 0 64]), (92, .arr 1 [[.int .u8 (0)], [.int .u8 (0)], [.int .u8 (0)], [.int .u8 (0)], [.int .u8 (0)], [.int .u8 (0)], [.int .u8 (0)], [.int .u8 (0)], [.int .u8 (0)], [.int .u8 (0)], [.int .u8 (0)], [.int .u8 (0)], [.int .u8 (0)], [.int .u8 (0)], [.int .u8 (0)], [.int .u8 (0)], [.int .u8 (0)], [.int .u8 (0)], [.int .u8 (0)], [.int .u8 (0)], [.int .u8 (0)], [.int .u8 (0)], [.int .u8 (0)], [.int .u8 (0)], [.int .u8 (0)], [.int .u8 (0)], [.int .u8 (0)], [.int .u8 (0)], [.int .u8 (0)], [.int .u8 (0)], [.int .u8 (0)], [.int .u8 (0)], [.int .u8 (0)], [.int .u8 (0)], [.int .u8 (0)], [.int .u8 (0)], [.int .u8 (0)], [.int .u8 (0)], [.int .u8 (0)], [.int .u8 (0)], [.int .u8 (0)], [.int .u8 (0)], [.int .u8 (0)], [.int .u8 (0)], [.int .u8 (0)], [.int .u8 (0)], [.int .u8 (0)], [.int .u8 (0)], [.int .u8 (0)], [.int .u8 (0)], [.int .u8 (0)], [.int .u8 (0)], [.int .u8 (0)], [.int .u8 (0)], [.int .u8 (0)], [.int .u8 (0)], [.int .u8 (0)], [.int .u8 (0)], [.int .u8 (0)], [.int .u8 (0)], [.int .u8 (0)], [.int .u8 (0)], [.int .u8 (0)], [.int .u8 (0)]]), (90, .cells [.int .i64 (1), .int .i64 (1), .ptr 93 0, .ptr 94 0, .ptr 95 0, .ptr 97 0, .ptr 98 0, .int .u32 (0), .int .u32 (0), .int .u32 (0), .int .u32 (0), .int .u32 (0), .int .u32 (0), .int .u32 (0), .int .u32 (0), .int .u32 (0), .int .u32 (0), .int .u32 (1), .int .u32 (0), .int .u32 (0), .bool true, .bool true, .bool false, .int .i64 (1), .bool false, .int .u32 (0), .int .u32 (0)]), (89, .cells [.int .i64 (3), .int .i64 (0), .int .i64 (1), .int .u32 (0), .int .u32 (0), .int .u32 (1), .nilsl]), (88, .cells [.fn (.func 57) [] []]), (87, .cells [.fn (.func 56) [] []]), (86, .cells [.fn (.func 55) [] []]), (85, .cells [.fn (.func 54) [] []]), (84, .cells [.fn (.func 53) [] []]), (83, .cells [.fn (.func 52) [] []]), (82, .cells [.fn (.func 51) [] []]), (81, .map [(.int .i64 (1), .agg [.int .i64 (0), .int .i64 (255), .int .i64 (1), .int .i64 (-1), .bool false, .fn (.func 49) [] []]), (.int .i64 (2), .agg [.int .i64 (0), .int .i64 (65535), .int .i64 (2), .int .i64 (255), .bool false, .fn (.func 85) [] [.ptr 82 0]]), (.int .i64 (3), .agg [.int .i64 (0), .int .i64 (255), .int .i64 (1), .int .i64 (64), .bool false, .fn (.func 85) [] [.ptr 83 0]]), (.int .i64 (4), .agg [.int .i64 (0), .int .i64 (0), .int .i64 (0), .int .i64 (255), .bool false, .fn (.func 85) [] [.ptr 84 0]]), (.int .i64 (5), .agg [.int .i64 (0), .int .i64 (0), .int .i64 (0), .int .i64 (64), .bool false, .fn (.func 85) [] [.ptr 85 0]]), (.int .i64 (6), .agg [.int .i64 (1), .int .i64 (4), .int .i64 (1), .int .i64 (-1), .bool true, .fn (.func 85) [] [.ptr 86 0]]), (.int .i64 (7), .agg [.int .i64 (1), .int .i64 (4), .int .i64 (1), .int .i64 (-1), .bool true, .fn (.func 85) [] [.ptr 87 0]]), (.int .i64 (8), .agg [.int .i64 (0), .int .i64 (0), .int .i64 (0), .int .i64 (-1), .bool true, .fn (.func 85) [] [.ptr 88 0]])]), (72, .cells [.ptr 63 0]), (71, .cells [.nilsl, .nilsl, .int .i64 (0), .int .i64 (0), .bool true]), (70, .cells [.int .i64 (1), .map 69]), (69, .map []), (68, .cells [.int .u32 (0), .int .u32 (0), .bool false, .bool false, .bool false, .bool false, .sl true 1 [[.int .u8 (104)], [.int .u8 (105)]], .int .i64 (0), .nilsl, .bool true]), (67, .cells [.bool false, .int .u32 (0), .int .u32 (0), .bool false, .bool false, .int .u32 (0), .int .u32 (0), .bool false, .bool false, .int .u32 (0), .int .u32 (0), .bool false, .bool false, .int .u32 (0), .int .u32 (0), .bool false, .int .i64 (0), .bool true]), (66, .cells [.rsl 65 1 0 64]), (65, .arr 1 [[.int .u8 (0)], [.int .u8 (0)], [.int .u8 (0)], [.int .u8 (0)], [.int .u8 (0)], [.int .u8 (0)], [.int .u8 (0)], [.int .u8 (0)], [.int .u8 (0)], [.int .u8 (0)], [.int .u8 (0)], [.int .u8 (0)], [.int .u8 (0)], [.int .u8 (0)], [.int .u8 (0)], [.int .u8 (0)], [.int .u8 (0)], [.int .u8 (0)], [.int .u8 (0)], [.int .u8 (0)], [.int .u8 (0)], [.int .u8 (0)], [.int .u8 (0)], [.int .u8 (0)], [.int .u8 (0)], [.int .u8 (0)], [.int .u8 (0)], [.int .u8 (0)], [.int .u8 (0)], [.int .u8 (0)], [.int .u8 (0)], [.int .u8 (0)], [.int .u8 (0)], [.int .u8 (0)], [.int .u8 (0)], [.int .u8 (0)], [.int .u8 (0)], [.int .u8 (0)], [.int .u8 (0)], [.int .u8 (0)], [.int .u8 (0)], [.int .u8 (0)], [.int .u8 (0)], [.int .u8 (0)], [.int .u8 (0)], [.int .u8 (0)], [.int .u8 (0)], [.int .u8 (0)], [.int .u8 (0)], [.int .u8 (0)], [.int .u8 (0)], [.int .u8 (0)], [.int .u8 (0)], [.int .u8 (0)], [.int .u8 (0)], [.int .u8 (0)], [.int .u8 (0)], [.int .u8 (0)], [.int .u8 (0)], [.int .u8 (0)], [.int .u8 (0)], [.int .u8 (0)], [.int .u8 (0)], [.int .u8 (0)]]), (63, .cells [.int .i64 (1), .int .i64 (1), .ptr 66 0, .ptr 67 0, .ptr 68 0, .ptr 70 0, .ptr 71 0, .int .u32 (0), .int .u32 (0), .int .u32 (0), .int .u32 (0), .int .u32 (0), .int .u32 (0), .int .u32 (0), .int .u32 (0), .int .u32 (0), .int .u32 (0), .int .u32 (0), .int .u32 (0), .int .u32 (0), .bool true, .bool false, .bool false, .int .i64 (0), .bool false, .int .u32 (0), .int .u32 (0)]), (62, .cells [.sl false 1 [[.int .u8 (104)], [.int .u8 (105)]]]), (61, .cells [.fn (.func 57) [] []]), (60, .cells [.fn (.func 56) [] []]), (59, .cells [.fn (.func 55) [] []]), (58, .cells [.fn (.func 54) [] []]), (57, .cells [.fn (.func 53) [] []]), (56, .cells [.fn (.func 52) [] []]), (55, .cells [.fn (.func 51) [] []]), (54, .map [(.int .i64 (1), .agg [.int .i64 (0), .int .i64 (255), .int .i64 (1), .int .i64 (-1), .bool false, .fn (.func 49) [] []]), (.int .i64 (2), .agg [.int .i64 (0), .int .i64 (65535), .int .i64 (2), .int .i64 (255), .bool false, .fn (.func 85) [] [.ptr 55 0]]), (.int .i64 (3), .agg [.int .i64 (0), .int .i64 (255), .int .i64 (1), .int .i64 (64), .bool false, .fn (.func 85) [] [.ptr 56 0]]), (.int .i64 (4), .agg [.int .i64 (0), .int .i64 (0), .int .i64 (0), .int .i64 (255), .bool false, .fn (.func 85) [] [.ptr 57 0]]), (.int .i64 (5), .agg [.int .i64 (0), .int .i64 (0), .int .i64 (0), .int .i64 (64), .bool false, .fn (.func 85) [] [.ptr 58 0]]), (.int .i64 (6), .agg [.int .i64 (1), .int .i64 (4), .int .i64 (1), .int .i64 (-1), .bool true, .fn (.func 85) [] [.ptr 59 0]]), (.int .i64 (7), .agg [.int .i64 (1), .int .i64 (4), .int .i64 (1), .int .i64 (-1), .bool true, .fn (.func 85) [] [.ptr 60 0]]), (.int .i64 (8), .agg [.int .i64 (0), .int .i64 (0), .int .i64 (0), .int .i64 (-1), .bool true, .fn (.func 85) [] [.ptr 61 0]])]), (45, .cells [.sl true 1 [[.int .i64 (0)], [.int .i64 (0)]], .nilsl, .int .i64 (0), .int .i64 (0), .bool false, .int .u32 (0), .int .u32 (0), .int .u32 (0), .int .u32 (0), .int .u32 (0), .int .u32 (0), .int .u32 (0), .int .u32 (0), .int .u32 (0), .int .u32 (0), .int .u32 (0), .int .u32 (0), .int .u32 (0), .bool false, .bool false, .bool false, .nilsl, .nilsl, .nilsl, .nilsl, .nilsl]), (44, .cells [.ptr 43 0]), (43, .cells [.int .i64 (1), .int .i64 (1), .bool false, .int .i64 (0), .int .u32 (0), .int .u32 (0), .int .u32 (0), .int .u32 (0), .int .u32 (0), .int .u32 (0), .int .u32 (0), .int .u32 (0), .int .u32 (0), .int .u32 (0), .int .u32 (0), .ptr 153 0, .nilptr, .ptr 42 0, .nilptr]), (42, .cells [.int .u32 (0), .int .u32 (0), .int .u32 (0), .int .u32 (0), .int .u32 (0), .int .u32 (0), .int .u32 (0), .int .u32 (0), .int .u32 (0), .int .u32 (0), .int .u32 (0), .bool true]), (41, .cells [.ptr 40 0]), (40, .cells [.int .i64 (1), .int .i64 (1), .ptr 34 0, .ptr 37 0, .ptr 38 0, .ptr 36 0, .ptr 39 0, .int .u32 (0), .int .u32 (0), .int .u32 (0), .int .u32 (0), .int .u32 (0), .int .u32 (0), .int .u32 (0), .int .u32 (0), .int .u32 (0), .int .u32 (0), .int .u32 (0), .int .u32 (0), .int .u32 (0), .bool true, .bool false, .bool false, .int .i64 (0), .bool false, .int .u32 (0), .int .u32 (0)]), (39, .cells [.nilsl, .nilsl, .int .i64 (0), .int .i64 (0), .bool true]), (38, .cells [.int .u32 (0), .int .u32 (0), .bool false, .bool false, .bool false, .bool false, .nilsl, .int .i64 (0), .nilsl, .bool true]), (37, .cells [.bool false, .int .u32 (0), .int .u32 (0), .bool false, .bool false, .int .u32 (0), .int .u32 (0), .bool false, .bool false, .int .u32 (0), .int .u32 (0), .bool false, .bool false, .int .u32 (0), .int .u32 (0), .bool false, .int .i64 (0), .bool true]), (36, .cells [.int .i64 (1), .map 35]), (35, .map []), (34, .cells [.rsl 33 1 0 64]), (33, .arr 1 [[.int .u8 (0)], [.int .u8 (0)], [.int .u8 (0)], [.int .u8 (0)], [.int .u8 (0)], [.int .u8 (0)], [.int .u8 (0)], [.int .u8 (0)], [.int .u8 (0)], [.int .u8 (0)], [.int .u8 (0)], [.int .u8 (0)], [.int .u8 (0)], [.int .u8 (0)], [.int .u8 (0)], [.int .u8 (0)], [.int .u8 (0)], [.int .u8 (0)], [.int .u8 (0)], [.int .u8 (0)], [.int .u8 (0)], [.int .u8 (0)], [.int .u8 (0)], [.int .u8 (0)], [.int .u8 (0)], [.int .u8 (0)], [.int .u8 (0)], [.int .u8 (0)], [.int .u8 (0)], [.int .u8 (0)], [.int .u8 (0)], [.int .u8 (0)], [.int .u8 (0)], [.int .u8 (0)], [.int .u8 (0)], [.int .u8 (0)], [.int .u8 (0)], [.int .u8 (0)], [.int .u8 (0)], [.int .u8 (0)], [.int .u8 (0)], [.int .u8 (0)], [.int .u8 (0)], [.int .u8 (0)], [.int .u8 (0)], [.int .u8 (0)], [.int .u8 (0)], [.int .u8 (0)], [.int .u8 (0)], [.int .u8 (0)], [.int .u8 (0)], [.int .u8 (0)], [.int .u8 (0)], [.int .u8 (0)], [.int .u8 (0)], [.int .u8 (0)], [.int .u8 (0)], [.int .u8 (0)], [.int .u8 (0)], [.int .u8 (0)], [.int .u8 (0)], [.int .u8 (0)], [.int .u8 (0)], [.int .u8 (0)]])] ++ sc1.heap, next := 171 }
def sc8 : Sto := { heap := [(180, .cells [.ptr 171 0]), (179, .cells [.nilsl, .nilsl, .int .i64 (0), .int .i64 (0), .bool true]), (178, .cells [.int .i64 (1), .map 177]), (177, .map []), (176, .cells [.int .u32 (0), .int .u32 (0), .bool false, .bool false, .bool false, .bool false, .sl true 1 [[.int .u8 (104)], [.int .u8 (105)]], .int .i64 (0), .nilsl, .bool true]), (175, .cells [.bool false, .int .u32 (0), .int .u32 (0), .bool false, .bool false, .int .u32 (0), .int .u32 (0), .bool false, .bool false, .int .u32 (0), .int .u32 (0), .bool false, .bool false, .int .u32 (0), .int .u32 (0), .bool false, .int .i64 (0), .bool true]), (174, .cells [.rsl 173 1 0 64]), (173, .arr 1 [[.int .u8 (0)], [.int .u8 (0)], [.int .u8 (0)], [.int .u8 (0)], [.int .u8 (0)], [.int .u8 (0)], [.int .u8 (0)], [.int .u8 (0)], [.int .u8 (0)], [.int .u8 (0)], [.int .u8 (0)], [.int .u8 (0)], [.int .u8 (0)], [.int .u8 (0)], [.int .u8 (0)], [.int .u8 (0)], [.int .u8 (0)], [.int .u8 (0)], [.int .u8 (0)], [.int .u8 (0)], [.int .u8 (0)], [.int .u8 (0)], [.int .u8 (0)], [.int .u8 (0)], [.int .u8 (0)], [.int .u8 (0)], [.int .u8 (0)], [.int .u8 (0)], [.int .u8 (0)], [.int .u8 (0)], [.int .u8 (0)], [.int .u8 (0)], [.int .u8 (0)], [.int .u8 (0)], [.int .u8 (0)], [.int .u8 (0)], [.int .u8 (0)], [.int .u8 (0)], [.int .u8 (0)], [.int .u8 (0)], [.int .u8 (0)], [.int .u8 (0)], [.int .u8 (0)], [.int .u8 (0)], [.int .u8 (0)], [.int .u8 (0)], [.int .u8 (0)], [.int .u8 (0)], [.int .u8 (0)], [.int .u8 (0)], [.int .u8 (0)], [.int .u8 (0)], [.int .u8 (0)], [.int .u8 (0)], [.int .u8 (0)], [.int .u8 (0)], [.int .u8 (0)], [.int .u8 (0)], [.int .u8 (0)], [.int .u8 (0)], [.int .u8 (0)], [.int .u8 (0)], [.int .u8 (0)], [.int .u8 (0)]]), (171, .cells [.int .i64 (1), .int .i64 (1), .ptr 174 0, .ptr 175 0, .ptr 176 0, .ptr 178 0, .ptr 179 0, .int .u32 (0), .int .u32 (0), .int .u32 (0), .int .u32 (0), .int .u32 (0), .int .u32 (0), .int .u32 (0), .int .u32 (0), .int .u32 (0), .int .u32 (0), .int .u32 (1), .int .u32 (0), .int .u32 (0), .bool true, .bool true, .bool false, .int .i64 (3), .bool false, .int .u32 (0), .int .u32 (0)])] ++ sc7.heap, next := 181 }
def sca4 : List AV := [.ptr 44 0]
def scr4 : Option (AEnd × Sto) := some (.ret (.ptr 180 0), sc8)
def scm4 : Memo := ⟨39, sca4, sc7, scr4⟩
-- FACT 4 level sc.22 handler 198 .func 39
def sca5 : List AV := [.ptr 180 0]
def scr5 : Option (AEnd × Sto) := some (.ret (.int .i64 (3)), sc8)
def scm5 : Memo := ⟨40, sca5, sc8, scr5⟩
-- FACT 5 level sc.22 handler 198 .func 40
def sca6 : List AV := [.ptr 180 0]
def scr6 : Option (AEnd × Sto) := some (.ret (.bool false), sc8)
def scm6 : Memo := ⟨41, sca6, sc8, scr6⟩
-- FACT 6 level sc.22 handler 198 .func 41
def sca7 : List AV := [.ptr 180 0]
def scr7 : Option (AEnd × Sto) := some (.ret (.agg [.int .u32 (0), .int .u32 (0), .int .u32 (0), .int .u32 (0), .int .u32 (0), .int .u32 (0), .int .u32 (0), .int .u32 (0), .int .u32 (0), .int .u32 (0), .int .u32 (1), .int .u32 (0), .int .u32 (0), .bool true, .bool true, .bool false]), sc8)
def scm7 : Memo := ⟨42, sca7, sc8, scr7⟩
-- FACT 7 level sc.22 handler 198 .func 42
def sc9 : Sto := { heap := [(180, .cells [.ptr 171 0]), (179, .cells [.nilsl, .nilsl, .int .i64 (0), .int .i64 (0), .bool true]), (178, .cells [.int .i64 (1), .map 177]), (177, .map []), (176, .cells [.int .u32 (0), .int .u32 (0), .bool false, .bool false, .bool false, .bool false, .sl true 1 [[.int .u8 (104)], [.int .u8 (105)]], .int .i64 (0), .nilsl, .bool true]), (175, .cells [.bool false, .int .u32 (0), .int .u32 (0), .bool false, .bool false, .int .u32 (0), .int .u32 (0), .bool false, .bool false, .int .u32 (0), .int .u32 (0), .bool false, .bool false, .int .u32 (0), .int .u32 (0), .bool false, .int .i64 (0), .bool true]), (174, .cells [.rsl 173 1 0 64]), (173, .arr 1 [[.int .u8 (0)], [.int .u8 (0)], [.int .u8 (0)], [.int .u8 (0)], [.int .u8 (0)], [.int .u8 (0)], [.int .u8 (0)], [.int .u8 (0)], [.int .u8 (0)], [.int .u8 (0)], [.int .u8 (0)], [.int .u8 (0)], [.int .u8 (0)], [.int .u8 (0)], [.int .u8 (0)], [.int .u8 (0)], [.int .u8 (0)], [.int .u8 (0)], [.int .u8 (0)], [.int .u8 (0)], [.int .u8 (0)], [.int .u8 (0)], [.int .u8 (0)], [.int .u8 (0)], [.int .u8 (0)], [.int .u8 (0)], [.int .u8 (0)], [.int .u8 (0)], [.int .u8 (0)], [.int .u8 (0)], [.int .u8 (0)], [.int .u8 (0)], [.int .u8 (0)], [.int .u8 (0)], [.int .u8 (0)], [.int .u8 (0)], [.int .u8 (0)], [.int .u8 (0)], [.int .u8 (0)], [.int .u8 (0)], [.int .u8 (0)], [.int .u8 (0)], [.int .u8 (0)], [.int .u8 (0)], [.int .u8 (0)], [.int .u8 (0)], [.int .u8 (0)], [.int .u8 (0)], [.int .u8 (0)], [.int .u8 (0)], [.int .u8 (0)], [.int .u8 (0)], [.int .u8 (0)], [.int .u8 (0)], [.int .u8 (0)], [.int .u8 (0)], [.int .u8 (0)], [.int .u8 (0)], [.int .u8 (0)], [.int .u8 (0)], [.int .u8 (0)], [.int .u8 (0)], [.int .u8 (0)], [.int .u8 (0)]]), (171, .cells [.int .i64 (1), .int .i64 (1), .ptr 174 0, .ptr 175 0, .ptr 176 0, .ptr 178 0, .ptr 179 0, .int .u32 (0), .int .u32 (0), .int .u32 (0), .int .u32 (0), .int .u32 (0), .int .u32 (0), .int .u32 (0), .int .u32 (0), .int .u32 (0), .int .u32 (0), .int .u32 (1), .int .u32 (0), .int .u32 (0), .bool true, .bool true, .bool false, .int .i64 (3), .bool false, .int .u32 (0), .int .u32 (0)]), (167, .cells [.str [], .int .i64 (0)]), (166, .cells [.str [], .int .i64 (0)]), (165, .map [(.int .i64 (1), .int .i64 (1)), (.int .i64 (4), .int .i64 (1))]), (164, .cells [.int .u32 (0)]), (163, .cells [.ptr 154 0]), (160, .cells [.sl true 1 [[.fn (.func 264) [] [.ptr 158 0, .ptr 159 0]], [.fn (.func 265) [] [.ptr 158 0]], [.fn (.func 266) [] [.ptr 158 0]], [.fn (.func 267) [] [.ptr 158 0]]]]), (159, .cells [.int .i64 (2)]), (158, .cells [.ptr 149 0]), (157, .cells [.bool false]), (156, .cells [.int .i64 (0)]), (155, .cells [.ptr 149 0]), (154, .cells [.ptr 153 0, .int .i64 (1), .int .u32 (0), .int .u32 (0), .int .u32 (1), .sl true 3 [[.int .i64 (0), .int .i64 (0), .sl false 2 [[.int .i64 (7), .int .i64 (0)], [.int .i64 (8), .int .i64 (0)], [.int .i64 (9), .int .i64 (0)], [.int .i64 (2), .int .i64 (0)]]], [.int .i64 (0), .int .i64 (0), .sl false 2 [[.int .i64 (10), .int .i64 (0)], [.int .i64 (10), .int .i64 (1)], [.int .i64 (10), .int .i64 (2)], [.int .i64 (10), .int .i64 (3)]]], [.int .i64 (3), .int .i64 (0), .sl false 2 [[.int .i64 (2), .int .i64 (0)]]], [.int .i64 (4), .int .i64 (0), .nilsl], [.int .i64 (7), .int .i64 (0), .sl false 2 [[.int .i64 (7), .int .i64 (0)]]], [.int .i64 (0), .int .i64 (0), .sl false 2 [[.int .i64 (5), .int .i64 (0)]]], [.int .i64 (2), .int .i64 (0), .sl false 2 [[.int .i64 (5), .int .i64 (0)]]]]]), (153, .cells [.ptr 144 0]), (152, .cells [.nilsl, .nilsl, .int .i64 (0), .int .i64 (0), .bool true]), (151, .cells [.int .i64 (1), .map 150]), (150, .map []), (149, .cells [.int .u32 (0), .int .u32 (0), .bool false, .bool false, .bool false, .bool false, .sl true 1 [[.int .u8 (104)], [.int .u8 (105)]], .int .i64 (0), .nilsl, .bool true]), (148, .cells [.bool false, .int .u32 (0), .int .u32 (0), .bool false, .bool false, .int .u32 (0), .int .u32 (0), .bool false, .bool false, .int .u32 (0), .int .u32 (0), .bool false, .bool false, .int .u32 (0), .int .u32 (0), .bool false, .int .i64 (0), .bool true]), (147, .cells [.rsl 146 1 0 64]), (146, .arr 1 [[.int .u8 (0)], [.int .u8 (0)], [.int .u8 (0)], [.int .u8 (0)], [.int .u8 (0)], [.int .u8 (0)], [.int .u8 (0)], [.int .u8 (0)], [.int .u8 (0)], [.int .u8 (0)], [.int .u8 (0)], [.int .u8 (0)], [.int .u8 (0)], [.int .u8 (0)], [.int .u8 (0)], [.int .u8 (0)], [.int .u8 (0)], [.int .u8 (0)], [.int .u8 (0)], [.int .u8 (0)], [.int .u8 (0)], [.int .u8 (0)], [.int .u8 (0)], [.int .u8 (0)], [.int .u8 (0)], [.int .u8 (0)], [.int .u8 (0)], [.int .u8 (0)], [.int .u8 (0)], [.int .u8 (0)], [.int .u8 (0)], [.int .u8 (0)], [.int .u8 (0)], [.int .u8 (0)], [.int .u8 (0)], [.int .u8 (0)], [.int .u8 (0)], [.int .u8 (0)], [.int .u8 (0)], [.int .u8 (0)], [.int .u8 (0)], [.int .u8 (0)], [.int .u8 (0)], [.int .u8 (0)], [.int .u8 (0)], [.int .u8 (0)], [.int .u8 (0)], [.int .u8 (0)], [.int .u8 (0)], [.int .u8 (0)], [.int .u8 (0)], [.int .u8 (0)], [.int .u8 (0)], [.int .u8 (0)], [.int .u8 (0)], [.int .u8 (0)], [.int .u8 (0)], [.int .u8 (0)], [.int .u8 (0)], [.int .u8 (0)], [.int .u8 (0)], [.int .u8 (0)], [.int .u8 (0)], [.int .u8 (0)]]), (144, .cells [.int .i64 (1), .int .i64 (1), .ptr 147 0, .ptr 148 0, .ptr 149 0, .ptr 151 0, .ptr 152 0, .int .u32 (0), .int .u32 (0), .int .u32 (0), .int .u32 (0), .int .u32 (0), .int .u32 (0), .int .u32 (0), .int .u32 (0), .int .u32 (0), .int .u32 (0), .int .u32 (1), .int .u32 (0), .int .u32 (0), .bool true, .bool true, .bool false, .int .i64 (3), .bool false, .int .u32 (0), .int .u32 (0)]), (140, .cells [.str [], .int .i64 (0)]), (139, .cells [.str [], .int .i64 (0)]), (138, .map [(.int .i64 (1), .int .i64 (1)), (.int .i64 (4), .int .i64 (1))]), (137, .cells [.int .u32 (0)]), (136, .cells [.ptr 127 0]), (133, .cells [.sl true 1 [[.fn (.func 264) [] [.ptr 131 0, .ptr 132 0]], [.fn (.func 265) [] [.ptr 131 0]], [.fn (.func 266) [] [.ptr 131 0]], [.fn (.func 267) [] [.ptr 131 0]]]]), (132, .cells [.int .i64 (1)]), (131, .cells [.ptr 122 0]), (130, .cells [.bool false]), (129, .cells [.int .i64 (0)]), (128, .cells [.ptr 122 0]), (127, .cells [.ptr 126 0, .int .i64 (1), .int .u32 (0), .int .u32 (0), .int .u32 (1), .sl true 3 [[.int .i64 (0), .int .i64 (0), .sl false 2 [[.int .i64 (7), .int .i64 (0)], [.int .i64 (8), .int .i64 (0)], [.int .i64 (9), .int .i64 (0)], [.int .i64 (2), .int .i64 (0)]]], [.int .i64 (0), .int .i64 (0), .sl false 2 [[.int .i64 (10), .int .i64 (0)], [.int .i64 (10), .int .i64 (1)], [.int .i64 (10), .int .i64 (2)], [.int .i64 (10), .int .i64 (3)]]], [.int .i64 (3), .int .i64 (0), .sl false 2 [[.int .i64 (2), .int .i64 (0)]]], [.int .i64 (4), .int .i64 (0), .nilsl], [.int .i64 (7), .int .i64 (0), .sl false 2 [[.int .i64 (7), .int .i64 (0)]]], [.int .i64 (0), .int .i64 (0), .sl false 2 [[.int .i64 (5), .int .i64 (0)]]], [.int .i64 (2), .int .i64 (0), .sl false 2 [[.int .i64 (5), .int .i64 (0)]]]]]), (126, .cells [.ptr 117 0]), (125, .cells [.nilsl, .nilsl, .int .i64 (0), .int .i64 (0), .bool true]), (124, .cells [.int .i64 (1), .map 123]), (123, .map []), (122, .cells [.int .u32 (0), .int .u32 (0), .bool false, .bool false, .bool false, .bool false, .sl true 1 [[.int .u8 (104)], [.int .u8 (105)]], .int .i64 (0), .nilsl, .bool true]), (121, .cells [.bool false, .int .u32 (0), .int .u32 (0), .bool false, .bool false, .int .u32 (0), .int .u32 (0), .bool false, .bool false, .int .u32 (0), .int .u32 (0), .bool false, .bool false, .int .u32 (0), .int .u32 (0), .bool false, .int .i64 (0), .bool true]), (120, .cells [.rsl 119 1 0 64]), (119, .arr 1 [[.int .u8 (0)], [.int .u8 (0)], [.int .u8 (0)], [.int .u8 (0)], [.int .u8 (0)], [.int .u8 (0)], [.int .u8 (0)], [.int .u8 (0)], [.int .u8 (0)], [.int .u8 (0)], [.int .u8 (0)], [.int .u8 (0)], [.int .u8 (0)], [.int .u8 (0)], [.int .u8 (0)], [.int .u8 (0)], [.int .u8 (0)], [.int .u8 (0)], [.int .u8 (0)], [.int .u8 (0)], [.int .u8 (0)], [.int .u8 (0)], [.int .u8 (0)], [.int .u8 (0)], [.int .u8 (0)], [.int .u8 (0)], [.int .u8 (0)], [.int .u8 (0)], [.int .u8 (0)], [.int .u8 (0)], [.int .u8 (0)], [.int .u8 (0)], [.int .u8 (0)], [.int .u8 (0)], [.int .u8 (0)], [.int .u8 (0)], [.int .u8 (0)], [.int .u8 (0)], [.int .u8 (0)], [.int .u8 (0)], [.int .u8 (0)], [.int .u8 (0)], [.int .u8 (0)], [.int .u8 (0)], [.int .u8 (0)], [.int .u8 (0)], [.int .u8 (0)], [.int .u8 (0)], [.int .u8 (0)], [.int .u8 (0)], [.int .u8 (0)], [.int .u8 (0)], [.int .u8 (0)], [.int .u8 (0)], [.int .u8 (0)], [.int .u8 (0)], [.int .u8 (0)], [.int .u8 (0)], [.int .u8 (0)], [.int .u8 (0)], [.int .u8 (0)], [.int .u8 (0)], [.int .u8 (0)], [.int .u8 (0)]]), (117, .cells [.int .i64 (1), .int .i64 (1), .ptr 120 0, .ptr 121 0, .ptr 122 0, .ptr 124 0, .ptr 125 0, .int .u32 (0), .int .u32 (0), .int .u32 (0), .int .u32 (0), .int .u32 (0), .int .u32 (0), .int .u32 (0), .int .u32 (0), .int .u32 (0), .int .u32 (0), .int .u32 (1), .int .u32 (0), .int .u32 (0), .bool true, .bool true, .bool false, .int .i64 (2), .bool false, .int .u32 (0), .int .u32 (0)]), (113, .cells [.str [], .int .i64 (0)]), (112, .cells [.str [], .int .i64 (0)]), (111, .map [(.int .i64 (1), .int .i64 (1)), (.int .i64 (4), .int .i64 (1))]), (110, .cells [.int .u32 (0)]), (109, .cells [.ptr 100 0]), (106, .cells [.sl true 1 [[.fn (.func 264) [] [.ptr 104 0, .ptr 105 0]], [.fn (.func 265) [] [.ptr 104 0]], [.fn (.func 266) [] [.ptr 104 0]], [.fn (.func 267) [] [.ptr 104 0]]]]), (105, .cells [.int .i64 (0)]), (104, .cells [.ptr 95 0]), (103, .cells [.bool false]), (102, .cells [.int .i64 (0)]), (101, .cells [.ptr 95 0]), (100, .cells [.ptr 99 0, .int .i64 (1), .int .u32 (0), .int .u32 (0), .int .u32 (1), .sl true 3 [[.int .i64 (0), .int .i64 (0), .sl false 2 [[.int .i64 (7), .int .i64 (0)], [.int .i64 (8), .int .i64 (0)], [.int .i64 (9), .int .i64 (0)], [.int .i64 (2), .int .i64 (0)]]], [.int .i64 (0), .int .i64 (0), .sl false 2 [[.int .i64 (10), .int .i64 (0)], [.int .i64 (10), .int .i64 (1)], [.int .i64 (10), .int .i64 (2)], [.int .i64 (10), .int .i64 (3)]]], [.int .i64 (3), .int .i64 (0), .sl false 2 [[.int .i64 (2), .int .i64 (0)]]], [.int .i64 (4), .int .i64 (0), .nilsl], [.int .i64 (7), .int .i64 (0), .sl false 2 [[.int .i64 (7), .int .i64 (0)]]], [.int .i64 (0), .int .i64 (0), .sl false 2 [[.int .i64 (5), .int .i64 (0)]]], [.int .i64 (2), .int .i64 (0), .sl false 2 [[.int .i64 (5), .int .i64 (0)]]]]]), (99, .cells [.ptr 90 0]), (98, .cells [.nilsl, .nilsl, .int .i64 (0), .int .i64 (0), .bool true]), (97, .cells [.int .i64 (1), .map 96]), (96, .map []), (95, .cells [.int .u32 (0), .int .u32 (0), .bool false, .bool false, .bool false, .bool false, .sl true 1 [[.int .u8 (104)], [.int .u8 (105)]], .int .i64 (0), .nilsl, .bool true]), (94, .cells [.bool false, .int .u32 (0), .int .u32 (0), .bool false, .bool false, .int .u32 (0), .int .u32 (0), .bool false, .bool false, .int .u32 (0), .int .u32 (0), .bool false, .bool false, .int .u32 (0), .int .u32 (0), .bool false, .int .i64 (0), .bool true]), (93, .cells [.rsl 92 1 0 64]), (92, .arr 1 [[.int .u8 (0)], [.int .u8 (0)], [.int .u8 (0)], [.int .u8 (0)], [.int .u8 (0)], [.int .u8 (0)], [.int .u8 (0)], [.int .u8 (0)], [.int .u8 (0)], [.int .u8 (0)], [.int .u8 (0)], [.int .u8 (0)], [.int .u8 (0)], [.int .u8 (0)], [.int .u8 (0)], [.int .u8 (0)], [.int .u8 (0)], [.int .u8 (0)], [.int .u8 (0)], [.int .u8 (0)], [.int .u8 (0)], [.int .u8 (0)], [.int .u8 (0)], [.int .u8 (0)], [.int .u8 (0)], [.int .u8 (0)], [.int .u8 (0)], [.int .u8 (0)], [.int .u8 (0)], [.int .u8 (0)], [.int .u8 (0)], [.int .u8 (0)], [.int .u8 (0)], [.int .u8 (0)], [.int .u8 (0)], [.int .u8 (0)], [.int .u8 (0)], [.int .u8 (0)], [.int .u8 (0)], [.int .u8 (0)], [.int .u8 (0)], [.int .u8 (0)], [.int .u8 (0)], [.int .u8 (0)], [.int .u8 (0)], [.int .u8 (0)], [.int .u8 (0)], [.int .u8 (0)], [.int .u8 (0)], [.int .u8 (0)], [.int .u8 (0)], [.int .u8 (0)], [.int .u8 (0)], [.int .u8 (0)], [.int .u8 (0)], [.int .u8 (0)], [.int .u8 (0)], [.int .u8 (0)], [.int .u8 (0)], [.int .u8 (0)], [.int .u8 (0)], [.int .u8 (0)], [.int .u8 (0)], [.int .u8 (0)]]), (90, .cells [.int .i64 (1), .int .i64 (1), .ptr 93 0, .ptr 94 0, .ptr 95 0, .ptr 97 0, .ptr 98 0, .int .u32 (0), .int .u32 (0), .int .u32 (0), .int .u32 (0), .int .u32 (0), .int .u32 (0), .int .u32 (0), .int .u32 (0), .int .u32 (0), .int .u32 (0), .int .u32 (1), .int .u32 (0), .int .u32 (0), .bool true, .bool true, .bool false, .int .i64 (1), .bool false, .int .u32 (0), .int .u32 (0)]), (89, .cells [.int .i64 (3), .int .i64 (0), .int .i64 (1), .int .u32 (0), .int .u32 (0), .int .u32 (1), .nilsl]), (88, .cells [.fn (.func 57) [] []]), (87, .cells [.fn (.func 56) [] []]), (86, .cells [.fn (.func 55) [] []]), (85, .cells [.fn (.func 54) [] []]), (84, .cells [.fn (.func 53) [] []]), (83, .cells [.fn (.func 52) [] []]), (82, .cells [.fn (.func 51) [] []]), (81, .map [(.int .i64 (1), .agg [.int .i64 (0), .int .i64 (255), .int .i64 (1), .int .i64 (-1), .bool false, .fn (.func 49) [] []]), (.int .i64 (2), .agg [.int .i64 (0), .int .i64 (65535), .int .i64 (2), .int .i64 (255), .bool false, .fn (.func 85) [] [.ptr 82 0]]), (.int .i64 (3), .agg [.int .i64 (0), .int .i64 (255), .int .i64 (1), .int .i64 (64), .bool false, .fn (.func 85) [] [.ptr 83 0]]), (.int .i64 (4), .agg [.int .i64 (0), .int .i64 (0), .int .i64 (0), .int .i64 (255), .bool false, .fn (.func 85) [] [.ptr 84 0]]), (.int .i64 (5), .agg [.int .i64 (0), .int .i64 (0), .int .i64 (0), .int .i64 (64), .bool false, .fn (.func 85) [] [.ptr 85 0]]), (.int .i64 (6), .agg [.int .i64 (1), .int .i64 (4), .int .i64 (1), .int .i64 (-1), .bool true, .fn (.func 85) [] [.ptr 86 0]]), (.int .i64 (7), .agg [.int .i64 (1), .int .i64 (4), .int .i64 (1), .int .i64 (-1), .bool true, .fn (.func 85) [] [.ptr 87 0]]), (.int .i64 (8), .agg [.int .i64 (0), .int .i64 (0), .int .i64 (0), .int .i64 (-1), .bool true, .fn (.func 85) [] [.ptr 88 0]])]), (72, .cells [.ptr 63 0]), (71, .cells [.nilsl, .nilsl, .int .i64 (0), .int .i64 (0), .bool true]), (70, .cells [.int .i64 (1), .map 69]), (69, .map []), (68, .cells [.int .u32 (0), .int .u32 (0), .bool false, .bool false, .bool false, .bool false, .sl true 1 [[.int .u8 (104)], [.int .u8 (105)]], .int .i64 (0), .nilsl, .bool true]), (67, .cells [.bool false, .int .u32 (0), .int .u32 (0), .bool false, .bool false, .int .u32 (0), .int .u32 (0), .bool false, .bool false, .int .u32 (0), .int .u32 (0), .bool false, .bool false, .int .u32 (0), .int .u32 (0), .bool false, .int .i64 (0), .bool true]), (66, .cells [.rsl 65 1 0 64]), (65, .arr 1 [[.int .u8 (0)], [.int .u8 (0)], [.int .u8 (0)], [.int .u8 (0)], [.int .u8 (0)], [.int .u8 (0)], [.int .u8 (0)], [.int .u8 (0)], [.int .u8 (0)], [.int .u8 (0)], [.int .u8 (0)], [.int .u8 (0)], [.int .u8 (0)], [.int .u8 (0)], [.int .u8 (0)], [.int .u8 (0)], [.int .u8 (0)], [.int .u8 (0)], [.int .u8 (0)], [.int .u8 (0)], [.int .u8 (0)], [.int .u8 (0)], [.int .u8 (0)], [.int .u8 (0)], [.int .u8 (0)], [.int .u8 (0)], [.int .u8 (0)], [.int .u8 (0)], [.int .u8 (0)], [.int .u8 (0)], [.int .u8 (0)], [.int .u8 (0)], [.int .u8 (0)], [.int .u8 (0)], [.int .u8 (0)], [.int .u8 (0)], [.int .u8 (0)], [.int .u8 (0)], [.int .u8 (0)], [.int .u8 (0)], [.int .u8 (0)], [.int .u8 (0)], [.int .u8 (0)], [.int .u8 (0)], [.int .u8 (0)], [.int .u8 (0)], [.int .u8 (0)], [.int .u8 (0)], [.int .u8 (0)], [.int .u8 (0)], [.int .u8 (0)], [.int .u8 (0)], [.int .u8 (0)], [.int .u8 (0)], [.int .u8 (0)], [.int .u8 (0)], [.int .u8 (0)], [.int .u8 (0)], [.int .u8 (0)], [.int .u8 (0)], [.int .u8 (0)], [.int .u8 (0)], [.int .u8 (0)], [.int .u8 (0)]]), (63, .cells [.int .i64 (1), .int .i64 (1), .ptr 66 0, .ptr 67 0, .ptr 68 0, .ptr 70 0, .ptr 71 0, .int .u32 (0), .int .u32 (0), .int .u32 (0), .int .u32 (0), .int .u32 (0), .int .u32 (0), .int .u32 (0), .int .u32 (0), .int .u32 (0), .int .u32 (0), .int .u32 (0), .int .u32 (0), .int .u32 (0), .bool true, .bool false, .bool false, .int .i64 (0), .bool false, .int .u32 (0), .int .u32 (0)]), (62, .cells [.sl false 1 [[.int .u8 (104)], [.int .u8 (105)]]]), (61, .cells [.fn (.func 57) [] []]), (60, .cells [.fn (.func 56) [] []]), (59, .cells [.fn (.func 55) [] []]), (58, .cells [.fn (.func 54) [] []]), (57, .cells [.fn (.func 53) [] []]), (56, .cells [.fn (.func 52) [] []]), (55, .cells [.fn (.func 51) [] []]), (54, .map [(.int .i64 (1), .agg [.int .i64 (0), .int .i64 (255), .int .i64 (1), .int .i64 (-1), .bool false, .fn (.func 49) [] []]), (.int .i64 (2), .agg [.int .i64 (0), .int .i64 (65535), .int .i64 (2), .int .i64 (255), .bool false, .fn (.func 85) [] [.ptr 55 0]]), (.int .i64 (3), .agg [.int .i64 (0), .int .i64 (255), .int .i64 (1), .int .i64 (64), .bool false, .fn (.func 85) [] [.ptr 56 0]]), (.int .i64 (4), .agg [.int .i64 (0), .int .i64 (0), .int .i64 (0), .int .i64 (255), .bool false, .fn (.func 85) [] [.ptr 57 0]]), (.int .i64 (5), .agg [.int .i64 (0), .int .i64 (0), .int .i64 (0), .int .i64 (64), .bool false, .fn (.func 85) [] [.ptr 58 0]]), (.int .i64 (6), .agg [.int .i64 (1), .int .i64 (4), .int .i64 (1), .int .i64 (-1), .bool true, .fn (.func 85) [] [.ptr 59 0]]), (.int .i64 (7), .agg [.int .i64 (1), .int .i64 (4), .int .i64 (1), .int .i64 (-1), .bool true, .fn (.func 85) [] [.ptr 60 0]]), (.int .i64 (8), .agg [.int .i64 (0), .int .i64 (0), .int .i64 (0), .int .i64 (-1), .bool true, .fn (.func 85) [] [.ptr 61 0]])]), (45, .cells [.sl true 1 [[.int .i64 (0)], [.int .i64 (0)]], .nilsl, .int .i64 (0), .int .i64 (3), .bool false, .int .u32 (0), .int .u32 (0), .int .u32 (0), .int .u32 (0), .int .u32 (0), .int .u32 (0), .int .u32 (0), .int .u32 (0), .int .u32 (0), .int .u32 (0), .int .u32 (1), .int .u32 (0), .int .u32 (0), .bool true, .bool true, .bool false, .nilsl, .nilsl, .nilsl, .nilsl, .nilsl]), (44, .cells [.ptr 43 0]), (43, .cells [.int .i64 (1), .int .i64 (1), .bool false, .int .i64 (0), .int .u32 (0), .int .u32 (0), .int .u32 (0), .int .u32 (0), .int .u32 (0), .int .u32 (0), .int .u32 (0), .int .u32 (0), .int .u32 (0), .int .u32 (0), .int .u32 (0), .ptr 153 0, .nilptr, .ptr 42 0, .nilptr]), (42, .cells [.int .u32 (0), .int .u32 (0), .int .u32 (0), .int .u32 (0), .int .u32 (0), .int .u32 (0), .int .u32 (0), .int .u32 (0), .int .u32 (0), .int .u32 (0), .int .u32 (0), .bool true]), (41, .cells [.ptr 40 0]), (40, .cells [.int .i64 (1), .int .i64 (1), .ptr 34 0, .ptr 37 0, .ptr 38 0, .ptr 36 0, .ptr 39 0, .int .u32 (0), .int .u32 (0), .int .u32 (0), .int .u32 (0), .int .u32 (0), .int .u32 (0), .int .u32 (0), .int .u32 (0), .int .u32 (0), .int .u32 (0), .int .u32 (0), .int .u32 (0), .int .u32 (0), .bool true, .bool false, .bool false, .int .i64 (0), .bool false, .int .u32 (0), .int .u32 (0)]), (39, .cells [.nilsl, .nilsl, .int .i64 (0), .int .i64 (0), .bool true]), (38, .cells [.int .u32 (0), .int .u32 (0), .bool false, .bool false, .bool false, .bool false, .nilsl, .int .i64 (0), .nilsl, .bool true]), (37, .cells [.bool false, .int .u32 (0), .int .u32 (0), .bool false, .bool false, .int .u32 (0), .int .u32 (0), .bool false, .bool false, .int .u32 (0), .int .u32 (0), .bool false, .bool false, .int .u32 (0), .int .u32 (0), .bool false, .int .i64 (0), .bool true]), (36, .cells [.int .i64 (1), .map 35]), (35, .map []), (34, .cells [.rsl 33 1 0 64]), (33, .arr 1 [[.int .u8 (0)], [.int .u8 (0)], [.int .u8 (0)], [.int .u8 (0)], [.int .u8 (0)], [.int .u8 (0)], [.int .u8 (0)], [.int .u8 (0)], [.int .u8 (0)], [.int .u8 (0)], [.int .u8 (0)], [.int .u8 (0)], [.int .u8 (0)], [.int .u8 (0)], [.int .u8 (0)], [.int .u8 (0)], [.int .u8 (0)], [.int .u8 (0)], [.int .u8 (0)], [.int .u8 (0)], [.int .u8 (0)], [.int .u8 (0)], [.int .u8 (0)], [.int .u8 (0)], [.int .u8 (0)], [.int .u8 (0)], [.int .u8 (0)], [.int .u8 (0)], [.int .u8 (0)], [.int .u8 (0)], [.int .u8 (0)], [.int .u8 (0)], [.int .u8 (0)], [.int .u8 (0)], [.int .u8 (0)], [.int .u8 (0)], [.int .u8 (0)], [.int .u8 (0)], [.int .u8 (0)], [.int .u8 (0)], [.int .u8 (0)], [.int .u8 (0)], [.int .u8 (0)], [.int .u8 (0)], [.int .u8 (0)], [.int .u8 (0)], [.int .u8 (0)], [.int .u8 (0)], [.int .u8 (0)], [.int .u8 (0)], [.int .u8 (0)], [.int .u8 (0)], [.int .u8 (0)], [.int .u8 (0)], [.int .u8 (0)], [.int .u8 (0)], [.int .u8 (0)], [.int .u8 (0)], [.int .u8 (0)], [.int .u8 (0)], [.int .u8 (0)], [.int .u8 (0)], [.int .u8 (0)], [.int .u8 (0)]])] ++ sc1.heap, next := 181 }
def sc10 : Sto := { heap := [(182, .arr 1 [[.int .u8 (0)], [.int .u8 (0)], [.int .u8 (0)], [.int .u8 (0)], [.int .u8 (0)], [.int .u8 (0)], [.int .u8 (0)], [.int .u8 (0)], [.int .u8 (0)], [.int .u8 (0)], [.int .u8 (0)], [.int .u8 (0)], [.int .u8 (0)], [.int .u8 (0)], [.int .u8 (0)], [.int .u8 (0)], [.int .u8 (0)], [.int .u8 (0)], [.int .u8 (0)], [.int .u8 (0)], [.int .u8 (0)], [.int .u8 (0)], [.int .u8 (0)], [.int .u8 (0)], [.int .u8 (0)], [.int .u8 (0)], [.int .u8 (0)], [.int .u8 (0)], [.int .u8 (0)], [.int .u8 (0)], [.int .u8 (0)], [.int .u8 (0)], [.int .u8 (0)], [.int .u8 (0)], [.int .u8 (0)], [.int .u8 (0)], [.int .u8 (0)], [.int .u8 (0)], [.int .u8 (0)], [.int .u8 (0)], [.int .u8 (0)], [.int .u8 (0)], [.int .u8 (0)], [.int .u8 (0)], [.int .u8 (0)], [.int .u8 (0)], [.int .u8 (0)], [.int .u8 (0)], [.int .u8 (0)], [.int .u8 (0)], [.int .u8 (0)], [.int .u8 (0)], [.int .u8 (0)], [.int .u8 (0)], [.int .u8 (0)], [.int .u8 (0)], [.int .u8 (0)], [.int .u8 (0)], [.int .u8 (0)], [.int .u8 (0)], [.int .u8 (0)], [.int .u8 (0)], [.int .u8 (0)], [.int .u8 (0)]])] ++ sc9.heap, next := 183 }
def sca8 : List AV := [.ptr 180 0]
def scr8 : Option (AEnd × Sto) := some (.ret (.rsl 182 1 0 64), sc10)
def scm8 : Memo := ⟨43, sca8, sc9, scr8⟩
-- FACT 8 level sc.22 handler 198 .func 43
def sc11 : Sto := { heap := [] ++ sc10.heap, next := 184 }
def sca9 : List AV := [.ptr 180 0]
def scr9 : Option (AEnd × Sto) := some (.ret (.sl false 1 [[.int .u8 (0)], [.int .u8 (0)], [.int .u8 (0)], [.int .u8 (0)], [.int .u8 (0)], [.int .u8 (0)], [.int .u8 (0)], [.int .u8 (0)], [.int .u8 (0)], [.int .u8 (0)], [.int .u8 (0)], [.int .u8 (0)], [.int .u8 (0)], [.int .u8 (0)], [.int .u8 (0)], [.int .u8 (0)], [.int .u8 (0)], [.int .u8 (0)], [.int .u8 (0)], [.int .u8 (0)], [.int .u8 (0)], [.int .u8 (0)], [.int .u8 (0)], [.int .u8 (0)], [.int .u8 (0)], [.int .u8 (0)], [.int .u8 (0)], [.int .u8 (0)], [.int .u8 (0)], [.int .u8 (0)], [.int .u8 (0)], [.int .u8 (0)], [.int .u8 (0)], [.int .u8 (0)], [.int .u8 (0)], [.int .u8 (0)], [.int .u8 (0)], [.int .u8 (0)], [.int .u8 (0)], [.int .u8 (0)], [.int .u8 (0)], [.int .u8 (0)], [.int .u8 (0)], [.int .u8 (0)], [.int .u8 (0)], [.int .u8 (0)], [.int .u8 (0)], [.int .u8 (0)], [.int .u8 (0)], [.int .u8 (0)], [.int .u8 (0)], [.int .u8 (0)], [.int .u8 (0)], [.int .u8 (0)], [.int .u8 (0)], [.int .u8 (0)], [.int .u8 (0)], [.int .u8 (0)], [.int .u8 (0)], [.int .u8 (0)], [.int .u8 (0)], [.int .u8 (0)], [.int .u8 (0)], [.int .u8 (0)]]), sc11)
def scm9 : Memo := ⟨44, sca9, sc10, scr9⟩
-- FACT 9 level sc.22 handler 198 .func 44
def sca10 : List AV := [.ptr 180 0]
def scr10 : Option (AEnd × Sto) := some (.ret (.nilsl), sc11)
def scm10 : Memo := ⟨45, sca10, sc11, scr10⟩
-- FACT 10 level sc.22 handler 198 .func 45
def sca11 : List AV := [.ptr 180 0]
def scr11 : Option (AEnd × Sto) := some (.ret (.nilsl), sc11)
def scm11 : Memo := ⟨46, sca11, sc11, scr11⟩
-- FACT 11 level sc.22 handler 198 .func 46
def sc12 : Sto := { heap := [(182, .arr 1 [[.int .u8 (0)], [.int .u8 (0)], [.int .u8 (0)], [.int .u8 (0)], [.int .u8 (0)], [.int .u8 (0)], [.int .u8 (0)], [.int .u8 (0)], [.int .u8 (0)], [.int .u8 (0)], [.int .u8 (0)], [.int .u8 (0)], [.int .u8 (0)], [.int .u8 (0)], [.int .u8 (0)], [.int .u8 (0)], [.int .u8 (0)], [.int .u8 (0)], [.int .u8 (0)], [.int .u8 (0)], [.int .u8 (0)], [.int .u8 (0)], [.int .u8 (0)], [.int .u8 (0)], [.int .u8 (0)], [.int .u8 (0)], [.int .u8 (0)], [.int .u8 (0)], [.int .u8 (0)], [.int .u8 (0)], [.int .u8 (0)], [.int .u8 (0)], [.int .u8 (0)], [.int .u8 (0)], [.int .u8 (0)], [.int .u8 (0)], [.int .u8 (0)], [.int .u8 (0)], [.int .u8 (0)], [.int .u8 (0)], [.int .u8 (0)], [.int .u8 (0)], [.int .u8 (0)], [.int .u8 (0)], [.int .u8 (0)], [.int .u8 (0)], [.int .u8 (0)], [.int .u8 (0)], [.int .u8 (0)], [.int .u8 (0)], [.int .u8 (0)], [.int .u8 (0)], [.int .u8 (0)], [.int .u8 (0)], [.int .u8 (0)], [.int .u8 (0)], [.int .u8 (0)], [.int .u8 (0)], [.int .u8 (0)], [.int .u8 (0)], [.int .u8 (0)], [.int .u8 (0)], [.int .u8 (0)], [.int .u8 (0)]]), (180, .cells [.ptr 171 0]), (179, .cells [.nilsl, .nilsl, .int .i64 (0), .int .i64 (0), .bool true]), (178, .cells [.int .i64 (1), .map 177]), (177, .map []), (176, .cells [.int .u32 (0), .int .u32 (0), .bool false, .bool false, .bool false, .bool false, .sl true 1 [[.int .u8 (104)], [.int .u8 (105)]], .int .i64 (0), .nilsl, .bool true]), (175, .cells [.bool false, .int .u32 (0), .int .u32 (0), .bool false, .bool false, .int .u32 (0), .int .u32 (0), .bool false, .bool false, .int .u32 (0), .int .u32 (0), .bool false, .bool false, .int .u32 (0), .int .u32 (0), .bool false, .int .i64 (0), .bool true]), (174, .cells [.rsl 173 1 0 64]), (173, .arr 1 [[.int .u8 (0)], [.int .u8 (0)], [.int .u8 (0)], [.int .u8 (0)], [.int .u8 (0)], [.int .u8 (0)], [.int .u8 (0)], [.int .u8 (0)], [.int .u8 (0)], [.int .u8 (0)], [.int .u8 (0)], [.int .u8 (0)], [.int .u8 (0)], [.int .u8 (0)], [.int .u8 (0)], [.int .u8 (0)], [.int .u8 (0)], [.int .u8 (0)], [.int .u8 (0)], [.int .u8 (0)], [.int .u8 (0)], [.int .u8 (0)], [.int .u8 (0)], [.int .u8 (0)], [.int .u8 (0)], [.int .u8 (0)], [.int .u8 (0)], [.int .u8 (0)], [.int .u8 (0)], [.int .u8 (0)], [.int .u8 (0)], [.int .u8 (0)], [.int .u8 (0)], [.int .u8 (0)], [.int .u8 (0)], [.int .u8 (0)], [.int .u8 (0)], [.int .u8 (0)], [.int .u8 (0)], [.int .u8 (0)], [.int .u8 (0)], [.int .u8 (0)], [.int .u8 (0)], [.int .u8 (0)], [.int .u8 (0)], [.int .u8 (0)], [.int .u8 (0)], [.int .u8 (0)], [.int .u8 (0)], [.int .u8 (0)], [.int .u8 (0)], [.int .u8 (0)], [.int .u8 (0)], [.int .u8 (0)], [.int .u8 (0)], [.int .u8 (0)], [.int .u8 (0)], [.int .u8 (0)], [.int .u8 (0)], [.int .u8 (0)], [.int .u8 (0)], [.int .u8 (0)], [.int .u8 (0)], [.int .u8 (0)]]), (171, .cells [.int .i64 (1), .int .i64 (1), .ptr 174 0, .ptr 175 0, .ptr 176 0, .ptr 178 0, .ptr 179 0, .int .u32 (0), .int .u32 (0), .int .u32 (0), .int .u32 (0), .int .u32 (0), .int .u32 (0), .int .u32 (0), .int .u32 (0), .int .u32 (0), .int .u32 (0), .int .u32 (1), .int .u32 (0), .int .u32 (0), .bool true, .bool true, .bool false, .int .i64 (3), .bool false, .int .u32 (0), .int .u32 (0)]), (167, .cells [.str [], .int .i64 (0)]), (166, .cells [.str [], .int .i64 (0)]), (165, .map [(.int .i64 (1), .int .i64 (1)), (.int .i64 (4), .int .i64 (1))]), (164, .cells [.int .u32 (0)]), (163, .cells [.ptr 154 0]), (160, .cells [.sl true 1 [[.fn (.func 264) [] [.ptr 158 0, .ptr 159 0]], [.fn (.func 265) [] [.ptr 158 0]], [.fn (.func 266) [] [.ptr 158 0]], [.fn (.func 267) [] [.ptr 158 0]]]]), (159, .cells [.int .i64 (2)]), (158, .cells [.ptr 149 0]), (157, .cells [.bool false]), (156, .cells [.int .i64 (0)]), (155, .cells [.ptr 149 0]), (154, .cells [.ptr 153 0, .int .i64 (1), .int .u32 (0), .int .u32 (0), .int .u32 (1), .sl true 3 [[.int .i64 (0), .int .i64 (0), .sl false 2 [[.int .i64 (7), .int .i64 (0)], [.int .i64 (8), .int .i64 (0)], [.int .i64 (9), .int .i64 (0)], [.int .i64 (2), .int .i64 (0)]]], [.int .i64 (0), .int .i64 (0), .sl false 2 [[.int .i64 (10), .int .i64 (0)], [.int .i64 (10), .int .i64 (1)], [.int .i64 (10), .int .i64 (2)], [.int .i64 (10), .int .i64 (3)]]], [.int .i64 (3), .int .i64 (0), .sl false 2 [[.int .i64 (2), .int .i64 (0)]]], [.int .i64 (4), .int .i64 (0), .nilsl], [.int .i64 (7), .int .i64 (0), .sl false 2 [[.int .i64 (7), .int .i64 (0)]]], [.int .i64 (0), .int .i64 (0), .sl false 2 [[.int .i64 (5), .int .i64 (0)]]], [.int .i64 (2), .int .i64 (0), .sl false 2 [[.int .i64 (5), .int .i64 (0)]]]]]), (153, .cells [.ptr 144 0]), (152, .cells [.nilsl, .nilsl, .int .i64 (0), .int .i64 (0), .bool true]), (151, .cells [.int .i64 (1), .map 150]), (150, .map []), (149, .cells [.int .u32 (0), .int .u32 (0), .bool false, .bool false, .bool false, .bool false, .sl true 1 [[.int .u8 (104)], [.int .u8 (105)]], .int .i64 (0), .nilsl, .bool true]), (148, .cells [.bool false, .int .u32 (0), .int .u32 (0), .bool false, .bool false, .int .u32 (0), .int .u32 (0), .bool false, .bool false, .int .u32 (0), .int .u32 (0), .bool false, .bool false, .int .u32 (0), .int .u32 (0), .bool false, .int .i64 (0), .bool true]), (147, .cells [.rsl 146 1 0 64]), (146, .arr 1 [[.int .u8 (0)], [.int .u8 (0)], [.int .u8 (0)], [.int .u8 (0)], [.int .u8 (0)], [.int .u8 (0)], [.int .u8 (0)], [.int .u8 (0)], [.int .u8 (0)], [.int .u8 (0)], [.int .u8 (0)], [.int .u8 (0)], [.int .u8 (0)], [.int .u8 (0)], [.int .u8 (0)], [.int .u8 (0)], [.int .u8 (0)], [.int .u8 (0)], [.int .u8 (0)], [.int .u8 (0)], [.int .u8 (0)], [.int .u8 (0)], [.int .u8 (0)], [.int .u8 (0)], [.int .u8 (0)], [.int .u8 (0)], [.int .u8 (0)], [.int .u8 (0)], [.int .u8 (0)], [.int .u8 (0)], [.int .u8 (0)], [.int .u8 (0)], [.int .u8 (0)], [.int .u8 (0)], [.int .u8 (0)], [.int .u8 (0)], [.int .u8 (0)], [.int .u8 (0)], [.int .u8 (0)], [.int .u8 (0)], [.int .u8 (0)], [.int .u8 (0)], [.int .u8 (0)], [.int .u8 (0)], [.int .u8 (0)], [.int .u8 (0)], [.int .u8 (0)], [.int .u8 (0)], [.int .u8 (0)], [.int .u8 (0)], [.int .u8 (0)], [.int .u8 (0)], [.int .u8 (0)], [.int .u8 (0)], [.int .u8 (0)], [.int .u8 (0)], [.int .u8 (0)], [.int .u8 (0)], [.int .u8 (0)], [.int .u8 (0)], [.int .u8 (0)], [.int .u8 (0)], [.int .u8 (0)], [.int .u8 (0)]]), (144, .cells [.int .i64 (1), .int .i64 (1), .ptr 147 0, .ptr 148 0, .ptr 149 0, .ptr 151 0, .ptr 152 0, .int .u32 (0), .int .u32 (0), .int .u32 (0), .int .u32 (0), .int .u32 (0), .int .u32 (0), .int .u32 (0), .int .u32 (0), .int .u32 (0), .int .u32 (0), .int .u32 (1), .int .u32 (0), .int .u32 (0), .bool true, .bool true, .bool false, .int .i64 (3), .bool false, .int .u32 (0), .int .u32 (0)]), (140, .cells [.str [], .int .i64 (0)]), (139, .cells [.str [], .int .i64 (0)]), (138, .map [(.int .i64 (1), .int .i64 (1)), (.int .i64 (4), .int .i64 (1))]), (137, .cells [.int .u32 (0)]), (136, .cells [.ptr 127 0]), (133, .cells [.sl true 1 [[.fn (.func 264) [] [.ptr 131 0, .ptr 132 0]], [.fn (.func 265) [] [.ptr 131 0]], [.fn (.func 266) [] [.ptr 131 0]], [.fn (.func 267) [] [.ptr 131 0]]]]), (132, .cells [.int .i64 (1)]), (131, .cells [.ptr 122 0]), (130, .cells [.bool false]), (129, .cells [.int .i64 (0)]), (128, .cells [.ptr 122 0]), (127, .cells [.ptr 126 0, .int .i64 (1), .int .u32 (0), .int .u32 (0), .int .u32 (1), .sl true 3 [[.int .i64 (0), .int .i64 (0), .sl false 2 [[.int .i64 (7), .int .i64 (0)], [.int .i64 (8), .int .i64 (0)], [.int .i64 (9), .int .i64 (0)], [.int .i64 (2), .int .i64 (0)]]], [.int .i64 (0), .int .i64 (0), .sl false 2 [[.int .i64 (10), .int .i64 (0)], [.int .i64 (10), .int .i64 (1)], [.int .i64 (10), .int .i64 (2)], [.int .i64 (10), .int .i64 (3)]]], [.int .i64 (3), .int .i64 (0), .sl false 2 [[.int .i64 (2), .int .i64 (0)]]], [.int .i64 (4), .int .i64 (0), .nilsl], [.int .i64 (7), .int .i64 (0), .sl false 2 [[.int .i64 (7), .int .i64 (0)]]], [.int .i64 (0), .int .i64 (0), .sl false 2 [[.int .i64 (5), .int .i64 (0)]]], [.int .i64 (2), .int .i64 (0), .sl false 2 [[.int .i64 (5), .int .i64 (0)]]]]]), (126, .cells [.ptr 117 0]), (125, .cells [.nilsl, .nilsl, .int .i64 (0), .int .i64 (0), .bool true]), (124, .cells [.int .i64 (1), .map 123]), (123, .map []), (122, .cells [.int .u32 (0), .int .u32 (0), .bool false, .bool false, .bool false, .bool false, .sl true 1 [[.int .u8 (104)], [.int .u8 (105)]], .int .i64 (0), .nilsl, .bool true]), (121, .cells [.bool false, .int .u32 (0), .int .u32 (0), .bool false, .bool false, .int .u32 (0), .int .u32 (0), .bool false, .bool false, .int .u32 (0), .int .u32 (0), .bool false, .bool false, .int .u32 (0), .int .u32 (0), .bool false, .int .i64 (0), .bool true]), (120, .cells [.rsl 119 1 0 64]), (119, .arr 1 [[.int .u8 (0)], [.int .u8 (0)], [.int .u8 (0)], [.int .u8 (0)], [.int .u8 (0)], [.int .u8 (0)], [.int .u8 (0)], [.int .u8 (0)], [.int .u8 (0)], [.int .u8 (0)], [.int .u8 (0)], [.int .u8 (0)], [.int .u8 (0)], [.int .u8 (0)], [.int .u8 (0)], [.int .u8 (0)], [.int .u8 (0)], [.int .u8 (0)], [.int .u8 (0)], [.int .u8 (0)], [.int .u8 (0)], [.int .u8 (0)], [.int .u8 (0)], [.int .u8 (0)], [.int .u8 (0)], [.int .u8 (0)], [.int .u8 (0)], [.int .u8 (0)], [.int .u8 (0)], [.int .u8 (0)], [.int .u8 (0)], [.int .u8 (0)], [.int .u8 (0)], [.int .u8 (0)], [.int .u8 (0)], [.int .u8 (0)], [.int .u8 (0)], [.int .u8 (0)], [.int .u8 (0)], [.int .u8 (0)], [.int .u8 (0)], [.int .u8 (0)], [.int .u8 (0)], [.int .u8 (0)], [.int .u8 (0)], [.int .u8 (0)], [.int .u8 (0)], [.int .u8 (0)], [.int .u8 (0)], [.int .u8 (0)], [.int .u8 (0)], [.int .u8 (0)], [.int .u8 (0)], [.int .u8 (0)], [.int .u8 (0)], [.int .u8 (0)], [.int .u8 (0)], [.int .u8 (0)], [.int .u8 (0)], [.int .u8 (0)], [.int .u8 (0)], [.int .u8 (0)], [.int .u8 (0)], [.int .u8 (0)]]), (117, .cells [.int .i64 (1), .int .i64 (1), .ptr 120 0, .ptr 121 0, .ptr 122 0, .ptr 124 0, .ptr 125 0, .int .u32 (0), .int .u32 (0), .int .u32 (0), .int .u32 (0), .int .u32 (0), .int .u32 (0), .int .u32 (0), .int .u32 (0), .int .u32 (0), .int .u32 (0), .int .u32 (1), .int .u32 (0), .int .u32 (0), .bool true, .bool true, .bool false, .int .i64 (2), .bool false, .int .u32 (0), .int .u32 (0)]), (113, .cells [.str [], .int .i64 (0)]), (112, .cells [.str [], .int .i64 (0)]), (111, .map [(.int .i64 (1), .int .i64 (1)), (.int .i64 (4), .int .i64 (1))]), (110, .cells [.int .u32 (0)]), (109, .cells [.ptr 100 0]), (106, .cells [.sl true 1 [[.fn (.func 264) [] [.ptr 104 0, .ptr 105 0]], [.fn (.func 265) [] [.ptr 104 0]], [.fn (.func 266) [] [.ptr 104 0]], [.fn (.func 267) [] [.ptr 104 0]]]]), (105, .cells [.int .i64 (0)]), (104, .cells [.ptr 95 0]), (103, .cells [.bool false]), (102, .cells [.int .i64 (0)]), (101, .cells [.ptr 95 0]), (100, .cells [.ptr 99 0, .int .i64 (1), .int .u32 (0), .int .u32 (0), .int .u32 (1), .sl true 3 [[.int .i64 (0), .int .i64 (0), .sl false 2 [[.int .i64 (7), .int .i64 (0)], [.int .i64 (8), .int .i64 (0)], [.int .i64 (9), .int .i64 (0)], [.int .i64 (2), .int .i64 (0)]]], [.int .i64 (0), .int .i64 (0), .sl false 2 [[.int .i64 (10), .int .i64 (0)], [.int .i64 (10), .int .i64 (1)], [.int .i64 (10), .int .i64 (2)], [.int .i64 (10), .int .i64 (3)]]], [.int .i64 (3), .int .i64 (0), .sl false 2 [[.int .i64 (2), .int .i64 (0)]]], [.int .i64 (4), .int .i64 (0), .nilsl], [.int .i64 (7), .int .i64 (0), .sl false 2 [[.int .i64 (7), .int .i64 (0)]]], [.int .i64 (0), .int .i64 (0), .sl false 2 [[.int .i64 (5), .int .i64 (0)]]], [.int .i64 (2), .int .i64 (0), .sl false 2 [[.int .i64 (5), .int .i64 (0)]]]]]), (99, .cells [.ptr 90 0]), (98, .cells [.nilsl, .nilsl, .int .i64 (0), .int .i64 (0), .bool true]), (97, .cells [.int .i64 (1), .map 96]), (96, .map []), (95, .cells [.int .u32 (0), .int .u32 (0), .bool false, .bool false, .bool false, .bool false, .sl true 1 [[.int .u8 (104)], [.int .u8 (105)]], .int .i64 (0), .nilsl, .bool true]), (94, .cells [.bool false, .int .u32 (0), .int .u32 (0), .bool false, .bool false, .int .u32 (0), .int .u32 (0), .bool false, .bool false, .int .u32 (0), .int .u32 (0), .bool false, .bool false, .int .u32 (0), .int .u32 (0), .bool false, .int .i64 (0), .bool true]), (93, .cells [.rsl 92 1 0 64]), (92, .arr 1 [[.int .u8 (0)], [.int .u8 (0)], [.int .u8 (0)], [.int .u8 (0)], [.int .u8 (0)], [.int .u8 (0)], [.int .u8 (0)], [.int .u8 (0)], [.int .u8 (0)], [.int .u8 (0)], [.int .u8 (0)], [.int .u8 (0)], [.int .u8 (0)], [.int .u8 (0)], [.int .u8 (0)], [.int .u8 (0)], [.int .u8 (0)], [.int .u8 (0)], [.int .u8 (0)], [.int .u8 (0)], [.int .u8 (0)], [.int .u8 (0)], [.int .u8 (0)], [.int .u8 (0)], [.int .u8 (0)], [.int .u8 (0)], [.int .u8 (0)], [.int .u8 (0)], [.int .u8 (0)], [.int .u8 (0)], [.int .u8 (0)], [.int .u8 (0)], [.int .u8 (0)], [.int .u8 (0)], [.int .u8 (0)], [.int .u8 (0)], [.int .u8 (0)], [.int .u8 (0)], [.int .u8 (0)], [.int .u8 (0)], [.int .u8 (0)], [.int .u8 (0)], [.int .u8 (0)], [.int .u8 (0)], [.int .u8 (0)], [.int .u8 (0)], [.int .u8 (0)], [.int .u8 (0)], [.int .u8 (0)], [.int .u8 (0)], [.int .u8 (0)], [.int .u8 (0)], [.int .u8 (0)], [.int .u8 (0)], [.int .u8 (0)], [.int .u8 (0)], [.int .u8 (0)], [.int .u8 (0)], [.int .u8 (0)], [.int .u8 (0)], [.int .u8 (0)], [.int .u8 (0)], [.int .u8 (0)], [.int .u8 (0)]]), (90, .cells [.int .i64 (1), .int .i64 (1), .ptr 93 0, .ptr 94 0, .ptr 95 0, .ptr 97 0, .ptr 98 0, .int .u32 (0), .int .u32 (0), .int .u32 (0), .int .u32 (0), .int .u32 (0), .int .u32 (0), .int .u32 (0), .int .u32 (0), .int .u32 (0), .int .u32 (0), .int .u32 (1), .int .u32 (0), .int .u32 (0), .bool true, .bool true, .bool false, .int .i64 (1), .bool false, .int .u32 (0), .int .u32 (0)]), (89, .cells [.int .i64 (3), .int .i64 (0), .int .i64 (1), .int .u32 (0), .int .u32 (0), .int .u32 (1), .nilsl]), (88, .cells [.fn (.func 57) [] []]), (87, .cells [.fn (.func 56) [] []]), (86, .cells [.fn (.func 55) [] []]), (85, .cells [.fn (.func 54) [] []]), (84, .cells [.fn (.func 53) [] []]), (83, .cells [.fn (.func 52) [] []]), (82, .cells [.fn (.func 51) [] []]), (81, .map [(.int .i64 (1), .agg [.int .i64 (0), .int .i64 (255), .int .i64 (1), .int .i64 (-1), .bool false, .fn (.func 49) [] []]), (.int .i64 (2), .agg [.int .i64 (0), .int .i64 (65535), .int .i64 (2), .int .i64 (255), .bool false, .fn (.func 85) [] [.ptr 82 0]]), (.int .i64 (3), .agg [.int .i64 (0), .int .i64 (255), .int .i64 (1), .int .i64 (64), .bool false, .fn (.func 85) [] [.ptr 83 0]]), (.int .i64 (4), .agg [.int .i64 (0), .int .i64 (0), .int .i64 (0), .int .i64 (255), .bool false, .fn (.func 85) [] [.ptr 84 0]]), (.int .i64 (5), .agg [.int .i64 (0), .int .i64 (0), .int .i64 (0), .int .i64 (64), .bool false, .fn (.func 85) [] [.ptr 85 0]]), (.int .i64 (6), .agg [.int .i64 (1), .int .i64 (4), .int .i64 (1), .int .i64 (-1), .bool true, .fn (.func 85) [] [.ptr 86 0]]), (.int .i64 (7), .agg [.int .i64 (1), .int .i64 (4), .int .i64 (1), .int .i64 (-1), .bool true, .fn (.func 85) [] [.ptr 87 0]]), (.int .i64 (8), .agg [.int .i64 (0), .int .i64 (0), .int .i64 (0), .int .i64 (-1), .bool true, .fn (.func 85) [] [.ptr 88 0]])]), (72, .cells [.ptr 63 0]), (71, .cells [.nilsl, .nilsl, .int .i64 (0), .int .i64 (0), .bool true]), (70, .cells [.int .i64 (1), .map 69]), (69, .map []), (68, .cells [.int .u32 (0), .int .u32 (0), .bool false, .bool false, .bool false, .bool false, .sl true 1 [[.int .u8 (104)], [.int .u8 (105)]], .int .i64 (0), .nilsl, .bool true]), (67, .cells [.bool false, .int .u32 (0), .int .u32 (0), .bool false, .bool false, .int .u32 (0), .int .u32 (0), .bool false, .bool false, .int .u32 (0), .int .u32 (0), .bool false, .bool false, .int .u32 (0), .int .u32 (0), .bool false, .int .i64 (0), .bool true]), (66, .cells [.rsl 65 1 0 64]), (65, .arr 1 [[.int .u8 (0)], [.int .u8 (0)], [.int .u8 (0)], [.int .u8 (0)], [.int .u8 (0)], [.int .u8 (0)], [.int .u8 (0)], [.int .u8 (0)], [.int .u8 (0)], [.int .u8 (0)], [.int .u8 (0)], [.int .u8 (0)], [.int .u8 (0)], [.int .u8 (0)], [.int .u8 (0)], [.int .u8 (0)], [.int .u8 (0)], [.int .u8 (0)], [.int .u8 (0)], [.int .u8 (0)], [.int .u8 (0)], [.int .u8 (0)], [.int .u8 (0)], [.int .u8 (0)], [.int .u8 (0)], [.int .u8 (0)], [.int .u8 (0)], [.int .u8 (0)], [.int .u8 (0)], [.int .u8 (0)], [.int .u8 (0)], [.int .u8 (0)], [.int .u8 (0)], [.int .u8 (0)], [.int .u8 (0)], [.int .u8 (0)], [.int .u8 (0)], [.int .u8 (0)], [.int .u8 (0)], [.int .u8 (0)], [.int .u8 (0)], [.int .u8 (0)], [.int .u8 (0)], [.int .u8 (0)], [.int .u8 (0)], [.int .u8 (0)], [.int .u8 (0)], [.int .u8 (0)], [.int .u8 (0)], [.int .u8 (0)], [.int .u8 (0)], [.int .u8 (0)], [.int .u8 (0)], [.int .u8 (0)], [.int .u8 (0)], [.int .u8 (0)], [.int .u8 (0)], [.int .u8 (0)], [.int .u8 (0)], [.int .u8 (0)], [.int .u8 (0)], [.int .u8 (0)], [.int .u8 (0)], [.int .u8 (0)]]), (63, .cells [.int .i64 (1), .int .i64 (1), .ptr 66 0, .ptr 67 0, .ptr 68 0, .ptr 70 0, .ptr 71 0, .int .u32 (0), .int .u32 (0), .int .u32 (0), .int .u32 (0), .int .u32 (0), .int .u32 (0), .int .u32 (0), .int .u32 (0), .int .u32 (0), .int .u32 (0), .int .u32 (0), .int .u32 (0), .int .u32 (0), .bool true, .bool false, .bool false, .int .i64 (0), .bool false, .int .u32 (0), .int .u32 (0)]), (62, .cells [.sl false 1 [[.int .u8 (104)], [.int .u8 (105)]]]), (61, .cells [.fn (.func 57) [] []]), (60, .cells [.fn (.func 56) [] []]), (59, .cells [.fn (.func 55) [] []]), (58, .cells [.fn (.func 54) [] []]), (57, .cells [.fn (.func 53) [] []]), (56, .cells [.fn (.func 52) [] []]), (55, .cells [.fn (.func 51) [] []]), (54, .map [(.int .i64 (1), .agg [.int .i64 (0), .int .i64 (255), .int .i64 (1), .int .i64 (-1), .bool false, .fn (.func 49) [] []]), (.int .i64 (2), .agg [.int .i64 (0), .int .i64 (65535), .int .i64 (2), .int .i64 (255), .bool false, .fn (.func 85) [] [.ptr 55 0]]), (.int .i64 (3), .agg [.int .i64 (0), .int .i64 (255), .int .i64 (1), .int .i64 (64), .bool false, .fn (.func 85) [] [.ptr 56 0]]), (.int .i64 (4), .agg [.int .i64 (0), .int .i64 (0), .int .i64 (0), .int .i64 (255), .bool false, .fn (.func 85) [] [.ptr 57 0]]), (.int .i64 (5), .agg [.int .i64 (0), .int .i64 (0), .int .i64 (0), .int .i64 (64), .bool false, .fn (.func 85) [] [.ptr 58 0]]), (.int .i64 (6), .agg [.int .i64 (1), .int .i64 (4), .int .i64 (1), .int .i64 (-1), .bool true, .fn (.func 85) [] [.ptr 59 0]]), (.int .i64 (7), .agg [.int .i64 (1), .int .i64 (4), .int .i64 (1), .int .i64 (-1), .bool true, .fn (.func 85) [] [.ptr 60 0]]), (.int .i64 (8), .agg [.int .i64 (0), .int .i64 (0), .int .i64 (0), .int .i64 (-1), .bool true, .fn (.func 85) [] [.ptr 61 0]])]), (45, .cells [.sl true 1 [[.int .i64 (0)], [.int .i64 (0)]], .nilsl, .int .i64 (0), .int .i64 (3), .bool false, .int .u32 (0), .int .u32 (0), .int .u32 (0), .int .u32 (0), .int .u32 (0), .int .u32 (0), .int .u32 (0), .int .u32 (0), .int .u32 (0), .int .u32 (0), .int .u32 (1), .int .u32 (0), .int .u32 (0), .bool true, .bool true, .bool false, .rsl 182 1 0 64, .sl false 1 [[.int .u8 (0)], [.int .u8 (0)], [.int .u8 (0)], [.int .u8 (0)], [.int .u8 (0)], [.int .u8 (0)], [.int .u8 (0)], [.int .u8 (0)], [.int .u8 (0)], [.int .u8 (0)], [.int .u8 (0)], [.int .u8 (0)], [.int .u8 (0)], [.int .u8 (0)], [.int .u8 (0)], [.int .u8 (0)], [.int .u8 (0)], [.int .u8 (0)], [.int .u8 (0)], [.int .u8 (0)], [.int .u8 (0)], [.int .u8 (0)], [.int .u8 (0)], [.int .u8 (0)], [.int .u8 (0)], [.int .u8 (0)], [.int .u8 (0)], [.int .u8 (0)], [.int .u8 (0)], [.int .u8 (0)], [.int .u8 (0)], [.int .u8 (0)], [.int .u8 (0)], [.int .u8 (0)], [.int .u8 (0)], [.int .u8 (0)], [.int .u8 (0)], [.int .u8 (0)], [.int .u8 (0)], [.int .u8 (0)], [.int .u8 (0)], [.int .u8 (0)], [.int .u8 (0)], [.int .u8 (0)], [.int .u8 (0)], [.int .u8 (0)], [.int .u8 (0)], [.int .u8 (0)], [.int .u8 (0)], [.int .u8 (0)], [.int .u8 (0)], [.int .u8 (0)], [.int .u8 (0)], [.int .u8 (0)], [.int .u8 (0)], [.int .u8 (0)], [.int .u8 (0)], [.int .u8 (0)], [.int .u8 (0)], [.int .u8 (0)], [.int .u8 (0)], [.int .u8 (0)], [.int .u8 (0)], [.int .u8 (0)]], .nilsl, .nilsl, .nilsl]), (44, .cells [.ptr 43 0]), (43, .cells [.int .i64 (1), .int .i64 (1), .bool false, .int .i64 (0), .int .u32 (0), .int .u32 (0), .int .u32 (0), .int .u32 (0), .int .u32 (0), .int .u32 (0), .int .u32 (0), .int .u32 (0), .int .u32 (0), .int .u32 (0), .int .u32 (0), .ptr 153 0, .nilptr, .ptr 42 0, .nilptr]), (42, .cells [.int .u32 (0), .int .u32 (0), .int .u32 (0), .int .u32 (0), .int .u32 (0), .int .u32 (0), .int .u32 (0), .int .u32 (0), .int .u32 (0), .int .u32 (0), .int .u32 (0), .bool true]), (41, .cells [.ptr 40 0]), (40, .cells [.int .i64 (1), .int .i64 (1), .ptr 34 0, .ptr 37 0, .ptr 38 0, .ptr 36 0, .ptr 39 0, .int .u32 (0), .int .u32 (0), .int .u32 (0), .int .u32 (0), .int .u32 (0), .int .u32 (0), .int .u32 (0), .int .u32 (0), .int .u32 (0), .int .u32 (0), .int .u32 (0), .int .u32 (0), .int .u32 (0), .bool true, .bool false, .bool false, .int .i64 (0), .bool false, .int .u32 (0), .int .u32 (0)]), (39, .cells [.nilsl, .nilsl, .int .i64 (0), .int .i64 (0), .bool true]), (38, .cells [.int .u32 (0), .int .u32 (0), .bool false, .bool false, .bool false, .bool false, .nilsl, .int .i64 (0), .nilsl, .bool true]), (37, .cells [.bool false, .int .u32 (0), .int .u32 (0), .bool false, .bool false, .int .u32 (0), .int .u32 (0), .bool false, .bool false, .int .u32 (0), .int .u32 (0), .bool false, .bool false, .int .u32 (0), .int .u32 (0), .bool false, .int .i64 (0), .bool true]), (36, .cells [.int .i64 (1), .map 35]), (35, .map []), (34, .cells [.rsl 33 1 0 64]), (33, .arr 1 [[.int .u8 (0)], [.int .u8 (0)], [.int .u8 (0)], [.int .u8 (0)], [.int .u8 (0)], [.int .u8 (0)], [.int .u8 (0)], [.int .u8 (0)], [.int .u8 (0)], [.int .u8 (0)], [.int .u8 (0)], [.int .u8 (0)], [.int .u8 (0)], [.int .u8 (0)], [.int .u8 (0)], [.int .u8 (0)], [.int .u8 (0)], [.int .u8 (0)], [.int .u8 (0)], [.int .u8 (0)], [.int .u8 (0)], [.int .u8 (0)], [.int .u8 (0)], [.int .u8 (0)], [.int .u8 (0)], [.int .u8 (0)], [.int .u8 (0)], [.int .u8 (0)], [.int .u8 (0)], [.int .u8 (0)], [.int .u8 (0)], [.int .u8 (0)], [.int .u8 (0)], [.int .u8 (0)], [.int .u8 (0)], [.int .u8 (0)], [.int .u8 (0)], [.int .u8 (0)], [.int .u8 (0)], [.int .u8 (0)], [.int .u8 (0)], [.int .u8 (0)], [.int .u8 (0)], [.int .u8 (0)], [.int .u8 (0)], [.int .u8 (0)], [.int .u8 (0)], [.int .u8 (0)], [.int .u8 (0)], [.int .u8 (0)], [.int .u8 (0)], [.int .u8 (0)], [.int .u8 (0)], [.int .u8 (0)], [.int .u8 (0)], [.int .u8 (0)], [.int .u8 (0)], [.int .u8 (0)], [.int .u8 (0)], [.int .u8 (0)], [.int .u8 (0)], [.int .u8 (0)], [.int .u8 (0)], [.int .u8 (0)]])] ++ sc1.heap, next := 184 }
def sca12 : List AV := [.ptr 44 0]
def scr12 : Option (AEnd × Sto) := some (.ret (.nilptr), sc12)
def scm12 : Memo := ⟨47, sca12, sc12, scr12⟩
-- FACT 12 level sc.22 handler 198 .func 47
def sca13 : List AV := [.agg [.int .i64 (1), .int .i64 (1), .bool false, .int .i64 (0), .int .u32 (0), .int .u32 (0), .int .u32 (0), .int .u32 (0), .int .u32 (0), .int .u32 (0), .int .u32 (0), .int .u32 (0), .int .u32 (0), .int .u32 (0), .int .u32 (0)], .sl true 4 [[.int .i64 (4), .int .i64 (0), .sl false 1 [[.int .u8 (104)], [.int .u8 (105)]], .int .u32 (0)], [.int .i64 (1), .int .i64 (3), .nilsl, .int .u32 (0)]]]
def scr13 : Option (AEnd × Sto) := some (.ret (.tup [.agg [.sl false 1 [[.int .i64 (0)], [.int .i64 (0)]], .nilsl, .int .i64 (0), .int .i64 (3), .bool false, .int .u32 (0), .int .u32 (0), .int .u32 (0), .int .u32 (0), .int .u32 (0), .int .u32 (0), .int .u32 (0), .int .u32 (0), .int .u32 (0), .int .u32 (0), .int .u32 (1), .int .u32 (0), .int .u32 (0), .bool true, .bool true, .bool false, .rsl 182 1 0 64, .sl false 1 [[.int .u8 (0)], [.int .u8 (0)], [.int .u8 (0)], [.int .u8 (0)], [.int .u8 (0)], [.int .u8 (0)], [.int .u8 (0)], [.int .u8 (0)], [.int .u8 (0)], [.int .u8 (0)], [.int .u8 (0)], [.int .u8 (0)], [.int .u8 (0)], [.int .u8 (0)], [.int .u8 (0)], [.int .u8 (0)], [.int .u8 (0)], [.int .u8 (0)], [.int .u8 (0)], [.int .u8 (0)], [.int .u8 (0)], [.int .u8 (0)], [.int .u8 (0)], [.int .u8 (0)], [.int .u8 (0)], [.int .u8 (0)], [.int .u8 (0)], [.int .u8 (0)], [.int .u8 (0)], [.int .u8 (0)], [.int .u8 (0)], [.int .u8 (0)], [.int .u8 (0)], [.int .u8 (0)], [.int .u8 (0)], [.int .u8 (0)], [.int .u8 (0)], [.int .u8 (0)], [.int .u8 (0)], [.int .u8 (0)], [.int .u8 (0)], [.int .u8 (0)], [.int .u8 (0)], [.int .u8 (0)], [.int .u8 (0)], [.int .u8 (0)], [.int .u8 (0)], [.int .u8 (0)], [.int .u8 (0)], [.int .u8 (0)], [.int .u8 (0)], [.int .u8 (0)], [.int .u8 (0)], [.int .u8 (0)], [.int .u8 (0)], [.int .u8 (0)], [.int .u8 (0)], [.int .u8 (0)], [.int .u8 (0)], [.int .u8 (0)], [.int .u8 (0)], [.int .u8 (0)], [.int .u8 (0)], [.int .u8 (0)]], .nilsl, .nilsl, .nilsl], .int .i64 (0)]), sc12)
def scm13 : Memo := ⟨22, sca13, sc1, scr13⟩
-- FACT 13 level sc handler 199 .func 22
def sc13 : Sto := { heap := [(16, .arr 4 [[.int .i64 (4), .int .i64 (0), .rsl 14 1 0 1, .int .u32 (0)]]), (15, .arr 4 [[.int .i64 (4), .int .i64 (0), .rsl 14 1 0 1, .int .u32 (0)]]), (14, .arr 1 [[.int .u8 (104)]]), (12, .cells [.sl false 1 []]), (11, .cells [.fn (.func 57) [] []]), (10, .cells [.fn (.func 56) [] []]), (9, .cells [.fn (.func 55) [] []]), (8, .cells [.fn (.func 54) [] []]), (7, .cells [.fn (.func 53) [] []]), (6, .cells [.fn (.func 52) [] []]), (5, .cells [.fn (.func 51) [] []]), (4, .map [(.int .i64 (1), .agg [.int .i64 (0), .int .i64 (255), .int .i64 (1), .int .i64 (-1), .bool false, .fn (.func 49) [] []]), (.int .i64 (2), .agg [.int .i64 (0), .int .i64 (65535), .int .i64 (2), .int .i64 (255), .bool false, .fn (.func 85) [] [.ptr 5 0]]), (.int .i64 (3), .agg [.int .i64 (0), .int .i64 (255), .int .i64 (1), .int .i64 (64), .bool false, .fn (.func 85) [] [.ptr 6 0]]), (.int .i64 (4), .agg [.int .i64 (0), .int .i64 (0), .int .i64 (0), .int .i64 (255), .bool false, .fn (.func 85) [] [.ptr 7 0]]), (.int .i64 (5), .agg [.int .i64 (0), .int .i64 (0), .int .i64 (0), .int .i64 (64), .bool false, .fn (.func 85) [] [.ptr 8 0]]), (.int .i64 (6), .agg [.int .i64 (1), .int .i64 (4), .int .i64 (1), .int .i64 (-1), .bool true, .fn (.func 85) [] [.ptr 9 0]]), (.int .i64 (7), .agg [.int .i64 (1), .int .i64 (4), .int .i64 (1), .int .i64 (-1), .bool true, .fn (.func 85) [] [.ptr 10 0]]), (.int .i64 (8), .agg [.int .i64 (0), .int .i64 (0), .int .i64 (0), .int .i64 (-1), .bool true, .fn (.func 85) [] [.ptr 11 0]])]), (1, .cells [.rsl 16 4 0 1]), (0, .cells [.sl false 1 [[.int .u8 (3)], [.int .u8 (2)], [.int .u8 (104)]]])], next := 17 }
def sca14 : List AV := [.sl true 1 [[.int .u8 (3)], [.int .u8 (2)], [.int .u8 (104)]]]
def scr14 : Option (AEnd × Sto) := some (.ret (.rsl 16 4 0 1), sc13)
def scm14 : Memo := ⟨17, sca14, { heap := [], next := 0 }, scr14⟩
-- FACT 14 level sc handler 199 .func 17
def sca15 : List AV := [.sl true 4 [[.int .i64 (8), .int .i64 (0), .nilsl, .int .u32 (258)]]]
def scr15 : Option (AEnd × Sto) := some (.ret (.tup [.sl false 1 [[.int .u8 (7)], [.int .u8 (2)], [.int .u8 (1)]], .int .i64 (0)]), sc1)
def scm15 : Memo := ⟨14, sca15, sc13, scr15⟩
-- FACT 15 level sc handler 199 .func 14
end Go.Ab.Seat
