/- Joining image files in the program answers as joining them in the document does, whatever the two files (pomanderlaw21.ImageJoins). No conditions. -/
import Derived.Test.YtooahmehpnbfgaaP05
import Derived.Test.YtooahmehpnbfgaaProg
import Derived.KernelRfl
import Derived.IntWalk
import Derived.Laws.RangeAny
namespace Go.Ab.Seat
open Go.Proofs
theorem tycells0 : Try.prog.cellsOf 0 = 1 := by kernel_rfl
theorem tybytes0 : Try.prog.bytesOf 0 = 0 := by kernel_rfl
theorem tyagg0 : aggT Try.prog 0 = false := by kernel_rfl
theorem tyval0 (cs : List AV) : valAt Try.prog 0 cs = cs.head? := valAt_one (by kernel_rfl) tyagg0 cs
theorem tycells1 : Try.prog.cellsOf 1 = 1 := by kernel_rfl
theorem tybytes1 : Try.prog.bytesOf 1 = 8 := by kernel_rfl
theorem tyzero1 : zeroA Try.prog 1 = some (.nilfn) := by kernel_rfl
theorem tyagg1 : aggT Try.prog 1 = false := by kernel_rfl
theorem tyval1 (cs : List AV) : valAt Try.prog 1 cs = cs.head? := valAt_one (by kernel_rfl) tyagg1 cs
theorem tycells2 : Try.prog.cellsOf 2 = 1 := by kernel_rfl
theorem tybytes2 : Try.prog.bytesOf 2 = 8 := by kernel_rfl
theorem tyzero2 : zeroA Try.prog 2 = some (.int .i64 (0)) := by kernel_rfl
theorem tyagg2 : aggT Try.prog 2 = false := by kernel_rfl
theorem tyval2 (cs : List AV) : valAt Try.prog 2 cs = cs.head? := valAt_one (by kernel_rfl) tyagg2 cs
theorem tycells3 : Try.prog.cellsOf 3 = 1 := by kernel_rfl
theorem tybytes3 : Try.prog.bytesOf 3 = 8 := by kernel_rfl
theorem tyzero3 : zeroA Try.prog 3 = some (.int .i64 (0)) := by kernel_rfl
theorem tyagg3 : aggT Try.prog 3 = false := by kernel_rfl
theorem tyval3 (cs : List AV) : valAt Try.prog 3 cs = cs.head? := valAt_one (by kernel_rfl) tyagg3 cs
theorem tycells4 : Try.prog.cellsOf 4 = 1 := by kernel_rfl
theorem tybytes4 : Try.prog.bytesOf 4 = 1 := by kernel_rfl
theorem tyzero4 : zeroA Try.prog 4 = some (.bool false) := by kernel_rfl
theorem tyagg4 : aggT Try.prog 4 = false := by kernel_rfl
theorem tyval4 (cs : List AV) : valAt Try.prog 4 cs = cs.head? := valAt_one (by kernel_rfl) tyagg4 cs
theorem tycells5 : Try.prog.cellsOf 5 = 1 := by kernel_rfl
theorem tybytes5 : Try.prog.bytesOf 5 = 1 := by kernel_rfl
theorem tyzero5 : zeroA Try.prog 5 = some (.int .u8 (0)) := by kernel_rfl
theorem tyagg5 : aggT Try.prog 5 = false := by kernel_rfl
theorem tyval5 (cs : List AV) : valAt Try.prog 5 cs = cs.head? := valAt_one (by kernel_rfl) tyagg5 cs
theorem tycells6 : Try.prog.cellsOf 6 = 1 := by kernel_rfl
theorem tybytes6 : Try.prog.bytesOf 6 = 1 := by kernel_rfl
theorem tyzero6 : zeroA Try.prog 6 = some (.int .u8 (0)) := by kernel_rfl
theorem tyagg6 : aggT Try.prog 6 = false := by kernel_rfl
theorem tyval6 (cs : List AV) : valAt Try.prog 6 cs = cs.head? := valAt_one (by kernel_rfl) tyagg6 cs
theorem tycells7 : Try.prog.cellsOf 7 = 4 := by kernel_rfl
theorem tybytes7 : Try.prog.bytesOf 7 = 24 := by kernel_rfl
theorem tyzero7 : zeroA Try.prog 7 = some (.agg [.int .i64 (0), .int .i64 (0), .bool false, .int .u8 (0)]) := by kernel_rfl
theorem tyagg7 : aggT Try.prog 7 = true := by kernel_rfl
theorem tyval7 (cs : List AV) : valAt Try.prog 7 cs = if 4 ≤ cs.length then some (.agg (cs.take 4)) else none := by rw [valAt_agg tyagg7, tycells7]
theorem tyfa7_0 (a : AV) : fieldAddrA Try.prog 7 a 0 = addOff a 0 := fieldAddrA_at (k := 0) (by kernel_rfl) a
theorem tysp7_0 : structPlaces Try.prog 7 0 = some (0, 1) := by kernel_rfl
theorem tyfd7_0 (cs : List AV) : fieldA Try.prog 7 (.agg cs) 0 = valAt Try.prog 2 (cs.drop 0) := fieldA_at (by kernel_rfl) cs
theorem tyfa7_1 (a : AV) : fieldAddrA Try.prog 7 a 1 = addOff a 1 := fieldAddrA_at (k := 0) (by kernel_rfl) a
theorem tysp7_1 : structPlaces Try.prog 7 1 = some (1, 1) := by kernel_rfl
theorem tyfd7_1 (cs : List AV) : fieldA Try.prog 7 (.agg cs) 1 = valAt Try.prog 3 (cs.drop 1) := fieldA_at (by kernel_rfl) cs
theorem tyfa7_2 (a : AV) : fieldAddrA Try.prog 7 a 2 = addOff a 2 := fieldAddrA_at (k := 0) (by kernel_rfl) a
theorem tysp7_2 : structPlaces Try.prog 7 2 = some (2, 1) := by kernel_rfl
theorem tyfd7_2 (cs : List AV) : fieldA Try.prog 7 (.agg cs) 2 = valAt Try.prog 4 (cs.drop 2) := fieldA_at (by kernel_rfl) cs
theorem tyfa7_3 (a : AV) : fieldAddrA Try.prog 7 a 3 = addOff a 3 := fieldAddrA_at (k := 0) (by kernel_rfl) a
theorem tysp7_3 : structPlaces Try.prog 7 3 = some (3, 1) := by kernel_rfl
theorem tyfd7_3 (cs : List AV) : fieldA Try.prog 7 (.agg cs) 3 = valAt Try.prog 6 (cs.drop 3) := fieldA_at (by kernel_rfl) cs
theorem tycells8 : Try.prog.cellsOf 8 = 4 := by kernel_rfl
theorem tybytes8 : Try.prog.bytesOf 8 = 24 := by kernel_rfl
theorem tyzero8 : zeroA Try.prog 8 = some (.agg [.int .i64 (0), .int .i64 (0), .bool false, .int .u8 (0)]) := by kernel_rfl
theorem tyagg8 : aggT Try.prog 8 = true := by kernel_rfl
theorem tyval8 (cs : List AV) : valAt Try.prog 8 cs = if 4 ≤ cs.length then some (.agg (cs.take 4)) else none := by rw [valAt_agg tyagg8, tycells8]
theorem tyfa8_0 (a : AV) : fieldAddrA Try.prog 8 a 0 = addOff a 0 := fieldAddrA_at (k := 0) (by kernel_rfl) a
theorem tysp8_0 : structPlaces Try.prog 8 0 = some (0, 1) := by kernel_rfl
theorem tyfd8_0 (cs : List AV) : fieldA Try.prog 8 (.agg cs) 0 = valAt Try.prog 2 (cs.drop 0) := fieldA_at (by kernel_rfl) cs
theorem tyfa8_1 (a : AV) : fieldAddrA Try.prog 8 a 1 = addOff a 1 := fieldAddrA_at (k := 0) (by kernel_rfl) a
theorem tysp8_1 : structPlaces Try.prog 8 1 = some (1, 1) := by kernel_rfl
theorem tyfd8_1 (cs : List AV) : fieldA Try.prog 8 (.agg cs) 1 = valAt Try.prog 3 (cs.drop 1) := fieldA_at (by kernel_rfl) cs
theorem tyfa8_2 (a : AV) : fieldAddrA Try.prog 8 a 2 = addOff a 2 := fieldAddrA_at (k := 0) (by kernel_rfl) a
theorem tysp8_2 : structPlaces Try.prog 8 2 = some (2, 1) := by kernel_rfl
theorem tyfd8_2 (cs : List AV) : fieldA Try.prog 8 (.agg cs) 2 = valAt Try.prog 4 (cs.drop 2) := fieldA_at (by kernel_rfl) cs
theorem tyfa8_3 (a : AV) : fieldAddrA Try.prog 8 a 3 = addOff a 3 := fieldAddrA_at (k := 0) (by kernel_rfl) a
theorem tysp8_3 : structPlaces Try.prog 8 3 = some (3, 1) := by kernel_rfl
theorem tyfd8_3 (cs : List AV) : fieldA Try.prog 8 (.agg cs) 3 = valAt Try.prog 6 (cs.drop 3) := fieldA_at (by kernel_rfl) cs
theorem tycells9 : Try.prog.cellsOf 9 = 1 := by kernel_rfl
theorem tybytes9 : Try.prog.bytesOf 9 = 16 := by kernel_rfl
theorem tyzero9 : zeroA Try.prog 9 = some (.str []) := by kernel_rfl
theorem tyagg9 : aggT Try.prog 9 = false := by kernel_rfl
theorem tyval9 (cs : List AV) : valAt Try.prog 9 cs = cs.head? := valAt_one (by kernel_rfl) tyagg9 cs
theorem tycells10 : Try.prog.cellsOf 10 = 1 := by kernel_rfl
theorem tybytes10 : Try.prog.bytesOf 10 = 16 := by kernel_rfl
theorem tyzero10 : zeroA Try.prog 10 = some (.str []) := by kernel_rfl
theorem tyagg10 : aggT Try.prog 10 = false := by kernel_rfl
theorem tyval10 (cs : List AV) : valAt Try.prog 10 cs = cs.head? := valAt_one (by kernel_rfl) tyagg10 cs
theorem tycells11 : Try.prog.cellsOf 11 = 1 := by kernel_rfl
theorem tybytes11 : Try.prog.bytesOf 11 = 16 := by kernel_rfl
theorem tyzero11 : zeroA Try.prog 11 = some (.str []) := by kernel_rfl
theorem tyagg11 : aggT Try.prog 11 = false := by kernel_rfl
theorem tyval11 (cs : List AV) : valAt Try.prog 11 cs = cs.head? := valAt_one (by kernel_rfl) tyagg11 cs
theorem tycells12 : Try.prog.cellsOf 12 = 1 := by kernel_rfl
theorem tybytes12 : Try.prog.bytesOf 12 = 8 := by kernel_rfl
theorem tyzero12 : zeroA Try.prog 12 = some (.int .u64 (0)) := by kernel_rfl
theorem tyagg12 : aggT Try.prog 12 = false := by kernel_rfl
theorem tyval12 (cs : List AV) : valAt Try.prog 12 cs = cs.head? := valAt_one (by kernel_rfl) tyagg12 cs
theorem tycells13 : Try.prog.cellsOf 13 = 2 := by kernel_rfl
theorem tybytes13 : Try.prog.bytesOf 13 = 24 := by kernel_rfl
theorem tyzero13 : zeroA Try.prog 13 = some (.agg [.str [], .int .u64 (0)]) := by kernel_rfl
theorem tyagg13 : aggT Try.prog 13 = true := by kernel_rfl
theorem tyval13 (cs : List AV) : valAt Try.prog 13 cs = if 2 ≤ cs.length then some (.agg (cs.take 2)) else none := by rw [valAt_agg tyagg13, tycells13]
theorem tyfa13_0 (a : AV) : fieldAddrA Try.prog 13 a 0 = addOff a 0 := fieldAddrA_at (k := 0) (by kernel_rfl) a
theorem tysp13_0 : structPlaces Try.prog 13 0 = some (0, 1) := by kernel_rfl
theorem tyfd13_0 (cs : List AV) : fieldA Try.prog 13 (.agg cs) 0 = valAt Try.prog 9 (cs.drop 0) := fieldA_at (by kernel_rfl) cs
theorem tyfa13_1 (a : AV) : fieldAddrA Try.prog 13 a 1 = addOff a 1 := fieldAddrA_at (k := 0) (by kernel_rfl) a
theorem tysp13_1 : structPlaces Try.prog 13 1 = some (1, 1) := by kernel_rfl
theorem tyfd13_1 (cs : List AV) : fieldA Try.prog 13 (.agg cs) 1 = valAt Try.prog 12 (cs.drop 1) := fieldA_at (by kernel_rfl) cs
theorem tycells14 : Try.prog.cellsOf 14 = 2 := by kernel_rfl
theorem tybytes14 : Try.prog.bytesOf 14 = 24 := by kernel_rfl
theorem tyzero14 : zeroA Try.prog 14 = some (.agg [.str [], .int .u64 (0)]) := by kernel_rfl
theorem tyagg14 : aggT Try.prog 14 = true := by kernel_rfl
theorem tyval14 (cs : List AV) : valAt Try.prog 14 cs = if 2 ≤ cs.length then some (.agg (cs.take 2)) else none := by rw [valAt_agg tyagg14, tycells14]
theorem tyfa14_0 (a : AV) : fieldAddrA Try.prog 14 a 0 = addOff a 0 := fieldAddrA_at (k := 0) (by kernel_rfl) a
theorem tysp14_0 : structPlaces Try.prog 14 0 = some (0, 1) := by kernel_rfl
theorem tyfd14_0 (cs : List AV) : fieldA Try.prog 14 (.agg cs) 0 = valAt Try.prog 9 (cs.drop 0) := fieldA_at (by kernel_rfl) cs
theorem tyfa14_1 (a : AV) : fieldAddrA Try.prog 14 a 1 = addOff a 1 := fieldAddrA_at (k := 0) (by kernel_rfl) a
theorem tysp14_1 : structPlaces Try.prog 14 1 = some (1, 1) := by kernel_rfl
theorem tyfd14_1 (cs : List AV) : fieldA Try.prog 14 (.agg cs) 1 = valAt Try.prog 12 (cs.drop 1) := fieldA_at (by kernel_rfl) cs
theorem tycells15 : Try.prog.cellsOf 15 = 1 := by kernel_rfl
theorem tybytes15 : Try.prog.bytesOf 15 = 8 := by kernel_rfl
theorem tyzero15 : zeroA Try.prog 15 = some (.nilptr) := by kernel_rfl
theorem tyagg15 : aggT Try.prog 15 = false := by kernel_rfl
theorem tyval15 (cs : List AV) : valAt Try.prog 15 cs = cs.head? := valAt_one (by kernel_rfl) tyagg15 cs
theorem tycells16 : Try.prog.cellsOf 16 = 1 := by kernel_rfl
theorem tybytes16 : Try.prog.bytesOf 16 = 8 := by kernel_rfl
theorem tyzero16 : zeroA Try.prog 16 = some (.nilptr) := by kernel_rfl
theorem tyagg16 : aggT Try.prog 16 = false := by kernel_rfl
theorem tyval16 (cs : List AV) : valAt Try.prog 16 cs = cs.head? := valAt_one (by kernel_rfl) tyagg16 cs
theorem tycells17 : Try.prog.cellsOf 17 = 1 := by kernel_rfl
theorem tybytes17 : Try.prog.bytesOf 17 = 8 := by kernel_rfl
theorem tyzero17 : zeroA Try.prog 17 = some (.nilptr) := by kernel_rfl
theorem tyagg17 : aggT Try.prog 17 = false := by kernel_rfl
theorem tyval17 (cs : List AV) : valAt Try.prog 17 cs = cs.head? := valAt_one (by kernel_rfl) tyagg17 cs
theorem tycells18 : Try.prog.cellsOf 18 = 1 := by kernel_rfl
theorem tybytes18 : Try.prog.bytesOf 18 = 8 := by kernel_rfl
theorem tyzero18 : zeroA Try.prog 18 = some (.agg [.nilptr]) := by kernel_rfl
theorem tyagg18 : aggT Try.prog 18 = true := by kernel_rfl
theorem tyval18 (cs : List AV) : valAt Try.prog 18 cs = if 1 ≤ cs.length then some (.agg (cs.take 1)) else none := by rw [valAt_agg tyagg18, tycells18]
theorem tyfa18_0 (a : AV) : fieldAddrA Try.prog 18 a 0 = addOff a 0 := fieldAddrA_at (k := 0) (by kernel_rfl) a
theorem tysp18_0 : structPlaces Try.prog 18 0 = some (0, 1) := by kernel_rfl
theorem tyfd18_0 (cs : List AV) : fieldA Try.prog 18 (.agg cs) 0 = valAt Try.prog 17 (cs.drop 0) := fieldA_at (by kernel_rfl) cs
theorem tycells19 : Try.prog.cellsOf 19 = 1 := by kernel_rfl
theorem tybytes19 : Try.prog.bytesOf 19 = 8 := by kernel_rfl
theorem tyzero19 : zeroA Try.prog 19 = some (.agg [.nilptr]) := by kernel_rfl
theorem tyagg19 : aggT Try.prog 19 = true := by kernel_rfl
theorem tyval19 (cs : List AV) : valAt Try.prog 19 cs = if 1 ≤ cs.length then some (.agg (cs.take 1)) else none := by rw [valAt_agg tyagg19, tycells19]
theorem tyfa19_0 (a : AV) : fieldAddrA Try.prog 19 a 0 = addOff a 0 := fieldAddrA_at (k := 0) (by kernel_rfl) a
theorem tysp19_0 : structPlaces Try.prog 19 0 = some (0, 1) := by kernel_rfl
theorem tyfd19_0 (cs : List AV) : fieldA Try.prog 19 (.agg cs) 0 = valAt Try.prog 17 (cs.drop 0) := fieldA_at (by kernel_rfl) cs
theorem tycells20 : Try.prog.cellsOf 20 = 1 := by kernel_rfl
theorem tybytes20 : Try.prog.bytesOf 20 = 16 := by kernel_rfl
theorem tyzero20 : zeroA Try.prog 20 = some (.niliface) := by kernel_rfl
theorem tyagg20 : aggT Try.prog 20 = false := by kernel_rfl
theorem tyval20 (cs : List AV) : valAt Try.prog 20 cs = cs.head? := valAt_one (by kernel_rfl) tyagg20 cs
theorem tycells21 : Try.prog.cellsOf 21 = 1 := by kernel_rfl
theorem tybytes21 : Try.prog.bytesOf 21 = 4 := by kernel_rfl
theorem tyzero21 : zeroA Try.prog 21 = some (.int .i32 (0)) := by kernel_rfl
theorem tyagg21 : aggT Try.prog 21 = false := by kernel_rfl
theorem tyval21 (cs : List AV) : valAt Try.prog 21 cs = cs.head? := valAt_one (by kernel_rfl) tyagg21 cs
theorem tycells22 : Try.prog.cellsOf 22 = 1 := by kernel_rfl
theorem tybytes22 : Try.prog.bytesOf 22 = 24 := by kernel_rfl
theorem tyzero22 : zeroA Try.prog 22 = some (.nilsl) := by kernel_rfl
theorem tyagg22 : aggT Try.prog 22 = false := by kernel_rfl
theorem tyval22 (cs : List AV) : valAt Try.prog 22 cs = cs.head? := valAt_one (by kernel_rfl) tyagg22 cs
theorem tycells23 : Try.prog.cellsOf 23 = 1 := by kernel_rfl
theorem tybytes23 : Try.prog.bytesOf 23 = 24 := by kernel_rfl
theorem tyzero23 : zeroA Try.prog 23 = some (.nilsl) := by kernel_rfl
theorem tyagg23 : aggT Try.prog 23 = false := by kernel_rfl
theorem tyval23 (cs : List AV) : valAt Try.prog 23 cs = cs.head? := valAt_one (by kernel_rfl) tyagg23 cs
theorem tycells24 : Try.prog.cellsOf 24 = 2 := by kernel_rfl
theorem tybytes24 : Try.prog.bytesOf 24 = 48 := by kernel_rfl
theorem tyzero24 : zeroA Try.prog 24 = some (.agg [.nilsl, .nilsl]) := by kernel_rfl
theorem tyagg24 : aggT Try.prog 24 = true := by kernel_rfl
theorem tyval24 (cs : List AV) : valAt Try.prog 24 cs = if 2 ≤ cs.length then some (.agg (cs.take 2)) else none := by rw [valAt_agg tyagg24, tycells24]
theorem tyfa24_0 (a : AV) : fieldAddrA Try.prog 24 a 0 = addOff a 0 := fieldAddrA_at (k := 0) (by kernel_rfl) a
theorem tysp24_0 : structPlaces Try.prog 24 0 = some (0, 1) := by kernel_rfl
theorem tyfd24_0 (cs : List AV) : fieldA Try.prog 24 (.agg cs) 0 = valAt Try.prog 22 (cs.drop 0) := fieldA_at (by kernel_rfl) cs
theorem tyfa24_1 (a : AV) : fieldAddrA Try.prog 24 a 1 = addOff a 1 := fieldAddrA_at (k := 0) (by kernel_rfl) a
theorem tysp24_1 : structPlaces Try.prog 24 1 = some (1, 1) := by kernel_rfl
theorem tyfd24_1 (cs : List AV) : fieldA Try.prog 24 (.agg cs) 1 = valAt Try.prog 23 (cs.drop 1) := fieldA_at (by kernel_rfl) cs
theorem tycells25 : Try.prog.cellsOf 25 = 2 := by kernel_rfl
theorem tybytes25 : Try.prog.bytesOf 25 = 48 := by kernel_rfl
theorem tyzero25 : zeroA Try.prog 25 = some (.agg [.nilsl, .nilsl]) := by kernel_rfl
theorem tyagg25 : aggT Try.prog 25 = true := by kernel_rfl
theorem tyval25 (cs : List AV) : valAt Try.prog 25 cs = if 2 ≤ cs.length then some (.agg (cs.take 2)) else none := by rw [valAt_agg tyagg25, tycells25]
theorem tyfa25_0 (a : AV) : fieldAddrA Try.prog 25 a 0 = addOff a 0 := fieldAddrA_at (k := 0) (by kernel_rfl) a
theorem tysp25_0 : structPlaces Try.prog 25 0 = some (0, 1) := by kernel_rfl
theorem tyfd25_0 (cs : List AV) : fieldA Try.prog 25 (.agg cs) 0 = valAt Try.prog 22 (cs.drop 0) := fieldA_at (by kernel_rfl) cs
theorem tyfa25_1 (a : AV) : fieldAddrA Try.prog 25 a 1 = addOff a 1 := fieldAddrA_at (k := 0) (by kernel_rfl) a
theorem tysp25_1 : structPlaces Try.prog 25 1 = some (1, 1) := by kernel_rfl
theorem tyfd25_1 (cs : List AV) : fieldA Try.prog 25 (.agg cs) 1 = valAt Try.prog 23 (cs.drop 1) := fieldA_at (by kernel_rfl) cs
theorem tycells26 : Try.prog.cellsOf 26 = 1 := by kernel_rfl
theorem tybytes26 : Try.prog.bytesOf 26 = 8 := by kernel_rfl
theorem tyzero26 : zeroA Try.prog 26 = some (.nilfn) := by kernel_rfl
theorem tyagg26 : aggT Try.prog 26 = false := by kernel_rfl
theorem tyval26 (cs : List AV) : valAt Try.prog 26 cs = cs.head? := valAt_one (by kernel_rfl) tyagg26 cs
theorem tycells27 : Try.prog.cellsOf 27 = 1 := by kernel_rfl
theorem tybytes27 : Try.prog.bytesOf 27 = 8 := by kernel_rfl
theorem tyzero27 : zeroA Try.prog 27 = some (.nilfn) := by kernel_rfl
theorem tyagg27 : aggT Try.prog 27 = false := by kernel_rfl
theorem tyval27 (cs : List AV) : valAt Try.prog 27 cs = cs.head? := valAt_one (by kernel_rfl) tyagg27 cs
theorem tycells28 : Try.prog.cellsOf 28 = 1 := by kernel_rfl
theorem tybytes28 : Try.prog.bytesOf 28 = 24 := by kernel_rfl
theorem tyzero28 : zeroA Try.prog 28 = some (.nilsl) := by kernel_rfl
theorem tyagg28 : aggT Try.prog 28 = false := by kernel_rfl
theorem tyval28 (cs : List AV) : valAt Try.prog 28 cs = cs.head? := valAt_one (by kernel_rfl) tyagg28 cs
theorem tycells29 : Try.prog.cellsOf 29 = 1 := by kernel_rfl
theorem tybytes29 : Try.prog.bytesOf 29 = 8 := by kernel_rfl
theorem tyzero29 : zeroA Try.prog 29 = some (.int .i64 (0)) := by kernel_rfl
theorem tyagg29 : aggT Try.prog 29 = false := by kernel_rfl
theorem tyval29 (cs : List AV) : valAt Try.prog 29 cs = cs.head? := valAt_one (by kernel_rfl) tyagg29 cs
theorem tycells30 : Try.prog.cellsOf 30 = 1 := by kernel_rfl
theorem tybytes30 : Try.prog.bytesOf 30 = 0 := by kernel_rfl
theorem tyagg30 : aggT Try.prog 30 = false := by kernel_rfl
theorem tyval30 (cs : List AV) : valAt Try.prog 30 cs = cs.head? := valAt_one (by kernel_rfl) tyagg30 cs
theorem tycells31 : Try.prog.cellsOf 31 = 1 := by kernel_rfl
theorem tybytes31 : Try.prog.bytesOf 31 = 8 := by kernel_rfl
theorem tyzero31 : zeroA Try.prog 31 = some (.nilfn) := by kernel_rfl
theorem tyagg31 : aggT Try.prog 31 = false := by kernel_rfl
theorem tyval31 (cs : List AV) : valAt Try.prog 31 cs = cs.head? := valAt_one (by kernel_rfl) tyagg31 cs
theorem tycells32 : Try.prog.cellsOf 32 = 1 := by kernel_rfl
theorem tybytes32 : Try.prog.bytesOf 32 = 8 := by kernel_rfl
theorem tyzero32 : zeroA Try.prog 32 = some (.nilfn) := by kernel_rfl
theorem tyagg32 : aggT Try.prog 32 = false := by kernel_rfl
theorem tyval32 (cs : List AV) : valAt Try.prog 32 cs = cs.head? := valAt_one (by kernel_rfl) tyagg32 cs
theorem tycells33 : Try.prog.cellsOf 33 = 1 := by kernel_rfl
theorem tybytes33 : Try.prog.bytesOf 33 = 0 := by kernel_rfl
theorem tyagg33 : aggT Try.prog 33 = false := by kernel_rfl
theorem tyval33 (cs : List AV) : valAt Try.prog 33 cs = cs.head? := valAt_one (by kernel_rfl) tyagg33 cs
theorem tycells34 : Try.prog.cellsOf 34 = 1 := by kernel_rfl
theorem tybytes34 : Try.prog.bytesOf 34 = 8 := by kernel_rfl
theorem tyzero34 : zeroA Try.prog 34 = some (.nilfn) := by kernel_rfl
theorem tyagg34 : aggT Try.prog 34 = false := by kernel_rfl
theorem tyval34 (cs : List AV) : valAt Try.prog 34 cs = cs.head? := valAt_one (by kernel_rfl) tyagg34 cs
theorem tycells35 : Try.prog.cellsOf 35 = 1 := by kernel_rfl
theorem tybytes35 : Try.prog.bytesOf 35 = 8 := by kernel_rfl
theorem tyzero35 : zeroA Try.prog 35 = some (.nilfn) := by kernel_rfl
theorem tyagg35 : aggT Try.prog 35 = false := by kernel_rfl
theorem tyval35 (cs : List AV) : valAt Try.prog 35 cs = cs.head? := valAt_one (by kernel_rfl) tyagg35 cs
theorem tycells36 : Try.prog.cellsOf 36 = 1 := by kernel_rfl
theorem tybytes36 : Try.prog.bytesOf 36 = 8 := by kernel_rfl
theorem tyzero36 : zeroA Try.prog 36 = some (.nilfn) := by kernel_rfl
theorem tyagg36 : aggT Try.prog 36 = false := by kernel_rfl
theorem tyval36 (cs : List AV) : valAt Try.prog 36 cs = cs.head? := valAt_one (by kernel_rfl) tyagg36 cs
theorem tycells37 : Try.prog.cellsOf 37 = 1 := by kernel_rfl
theorem tybytes37 : Try.prog.bytesOf 37 = 8 := by kernel_rfl
theorem tyzero37 : zeroA Try.prog 37 = some (.nilfn) := by kernel_rfl
theorem tyagg37 : aggT Try.prog 37 = false := by kernel_rfl
theorem tyval37 (cs : List AV) : valAt Try.prog 37 cs = cs.head? := valAt_one (by kernel_rfl) tyagg37 cs
theorem tycells38 : Try.prog.cellsOf 38 = 1 := by kernel_rfl
theorem tybytes38 : Try.prog.bytesOf 38 = 0 := by kernel_rfl
theorem tyagg38 : aggT Try.prog 38 = false := by kernel_rfl
theorem tyval38 (cs : List AV) : valAt Try.prog 38 cs = cs.head? := valAt_one (by kernel_rfl) tyagg38 cs
theorem tycells39 : Try.prog.cellsOf 39 = 1 := by kernel_rfl
theorem tybytes39 : Try.prog.bytesOf 39 = 8 := by kernel_rfl
theorem tyzero39 : zeroA Try.prog 39 = some (.nilfn) := by kernel_rfl
theorem tyagg39 : aggT Try.prog 39 = false := by kernel_rfl
theorem tyval39 (cs : List AV) : valAt Try.prog 39 cs = cs.head? := valAt_one (by kernel_rfl) tyagg39 cs
theorem tycells40 : Try.prog.cellsOf 40 = 2 := by kernel_rfl
theorem tybytes40 : Try.prog.bytesOf 40 = 48 := by kernel_rfl
theorem tyzero40 : zeroA Try.prog 40 = some (.agg [.nilsl, .nilsl]) := by kernel_rfl
theorem tyagg40 : aggT Try.prog 40 = true := by kernel_rfl
theorem tyval40 (cs : List AV) : valAt Try.prog 40 cs = if 2 ≤ cs.length then some (.agg (cs.take 2)) else none := by rw [valAt_agg tyagg40, tycells40]
theorem tyfa40_0 (a : AV) : fieldAddrA Try.prog 40 a 0 = addOff a 0 := fieldAddrA_at (k := 0) (by kernel_rfl) a
theorem tysp40_0 : structPlaces Try.prog 40 0 = some (0, 1) := by kernel_rfl
theorem tyfd40_0 (cs : List AV) : fieldA Try.prog 40 (.agg cs) 0 = valAt Try.prog 28 (cs.drop 0) := fieldA_at (by kernel_rfl) cs
theorem tyfa40_1 (a : AV) : fieldAddrA Try.prog 40 a 1 = addOff a 1 := fieldAddrA_at (k := 0) (by kernel_rfl) a
theorem tysp40_1 : structPlaces Try.prog 40 1 = some (1, 1) := by kernel_rfl
theorem tyfd40_1 (cs : List AV) : fieldA Try.prog 40 (.agg cs) 1 = valAt Try.prog 23 (cs.drop 1) := fieldA_at (by kernel_rfl) cs
theorem tycells41 : Try.prog.cellsOf 41 = 2 := by kernel_rfl
theorem tybytes41 : Try.prog.bytesOf 41 = 48 := by kernel_rfl
theorem tyzero41 : zeroA Try.prog 41 = some (.agg [.nilsl, .nilsl]) := by kernel_rfl
theorem tyagg41 : aggT Try.prog 41 = true := by kernel_rfl
theorem tyval41 (cs : List AV) : valAt Try.prog 41 cs = if 2 ≤ cs.length then some (.agg (cs.take 2)) else none := by rw [valAt_agg tyagg41, tycells41]
theorem tyfa41_0 (a : AV) : fieldAddrA Try.prog 41 a 0 = addOff a 0 := fieldAddrA_at (k := 0) (by kernel_rfl) a
theorem tysp41_0 : structPlaces Try.prog 41 0 = some (0, 1) := by kernel_rfl
theorem tyfd41_0 (cs : List AV) : fieldA Try.prog 41 (.agg cs) 0 = valAt Try.prog 28 (cs.drop 0) := fieldA_at (by kernel_rfl) cs
theorem tyfa41_1 (a : AV) : fieldAddrA Try.prog 41 a 1 = addOff a 1 := fieldAddrA_at (k := 0) (by kernel_rfl) a
theorem tysp41_1 : structPlaces Try.prog 41 1 = some (1, 1) := by kernel_rfl
theorem tyfd41_1 (cs : List AV) : fieldA Try.prog 41 (.agg cs) 1 = valAt Try.prog 23 (cs.drop 1) := fieldA_at (by kernel_rfl) cs
theorem tycells42 : Try.prog.cellsOf 42 = 1 := by kernel_rfl
theorem tybytes42 : Try.prog.bytesOf 42 = 0 := by kernel_rfl
theorem tyagg42 : aggT Try.prog 42 = false := by kernel_rfl
theorem tyval42 (cs : List AV) : valAt Try.prog 42 cs = cs.head? := valAt_one (by kernel_rfl) tyagg42 cs
theorem tycells43 : Try.prog.cellsOf 43 = 1 := by kernel_rfl
theorem tybytes43 : Try.prog.bytesOf 43 = 8 := by kernel_rfl
theorem tyzero43 : zeroA Try.prog 43 = some (.nilfn) := by kernel_rfl
theorem tyagg43 : aggT Try.prog 43 = false := by kernel_rfl
theorem tyval43 (cs : List AV) : valAt Try.prog 43 cs = cs.head? := valAt_one (by kernel_rfl) tyagg43 cs
theorem tycells44 : Try.prog.cellsOf 44 = 2 := by kernel_rfl
theorem tybytes44 : Try.prog.bytesOf 44 = 32 := by kernel_rfl
theorem tyzero44 : zeroA Try.prog 44 = some (.agg [.int .i64 (0), .nilsl]) := by kernel_rfl
theorem tyagg44 : aggT Try.prog 44 = true := by kernel_rfl
theorem tyval44 (cs : List AV) : valAt Try.prog 44 cs = if 2 ≤ cs.length then some (.agg (cs.take 2)) else none := by rw [valAt_agg tyagg44, tycells44]
theorem tyfa44_0 (a : AV) : fieldAddrA Try.prog 44 a 0 = addOff a 0 := fieldAddrA_at (k := 0) (by kernel_rfl) a
theorem tysp44_0 : structPlaces Try.prog 44 0 = some (0, 1) := by kernel_rfl
theorem tyfd44_0 (cs : List AV) : fieldA Try.prog 44 (.agg cs) 0 = valAt Try.prog 3 (cs.drop 0) := fieldA_at (by kernel_rfl) cs
theorem tyfa44_1 (a : AV) : fieldAddrA Try.prog 44 a 1 = addOff a 1 := fieldAddrA_at (k := 0) (by kernel_rfl) a
theorem tysp44_1 : structPlaces Try.prog 44 1 = some (1, 1) := by kernel_rfl
theorem tyfd44_1 (cs : List AV) : fieldA Try.prog 44 (.agg cs) 1 = valAt Try.prog 28 (cs.drop 1) := fieldA_at (by kernel_rfl) cs
theorem tycells45 : Try.prog.cellsOf 45 = 2 := by kernel_rfl
theorem tybytes45 : Try.prog.bytesOf 45 = 32 := by kernel_rfl
theorem tyzero45 : zeroA Try.prog 45 = some (.agg [.int .i64 (0), .nilsl]) := by kernel_rfl
theorem tyagg45 : aggT Try.prog 45 = true := by kernel_rfl
theorem tyval45 (cs : List AV) : valAt Try.prog 45 cs = if 2 ≤ cs.length then some (.agg (cs.take 2)) else none := by rw [valAt_agg tyagg45, tycells45]
theorem tyfa45_0 (a : AV) : fieldAddrA Try.prog 45 a 0 = addOff a 0 := fieldAddrA_at (k := 0) (by kernel_rfl) a
theorem tysp45_0 : structPlaces Try.prog 45 0 = some (0, 1) := by kernel_rfl
theorem tyfd45_0 (cs : List AV) : fieldA Try.prog 45 (.agg cs) 0 = valAt Try.prog 3 (cs.drop 0) := fieldA_at (by kernel_rfl) cs
theorem tyfa45_1 (a : AV) : fieldAddrA Try.prog 45 a 1 = addOff a 1 := fieldAddrA_at (k := 0) (by kernel_rfl) a
theorem tysp45_1 : structPlaces Try.prog 45 1 = some (1, 1) := by kernel_rfl
theorem tyfd45_1 (cs : List AV) : fieldA Try.prog 45 (.agg cs) 1 = valAt Try.prog 28 (cs.drop 1) := fieldA_at (by kernel_rfl) cs
theorem tycells46 : Try.prog.cellsOf 46 = 1 := by kernel_rfl
theorem tybytes46 : Try.prog.bytesOf 46 = 8 := by kernel_rfl
theorem tyzero46 : zeroA Try.prog 46 = some (.nilfn) := by kernel_rfl
theorem tyagg46 : aggT Try.prog 46 = false := by kernel_rfl
theorem tyval46 (cs : List AV) : valAt Try.prog 46 cs = cs.head? := valAt_one (by kernel_rfl) tyagg46 cs
theorem tycells47 : Try.prog.cellsOf 47 = 1 := by kernel_rfl
theorem tybytes47 : Try.prog.bytesOf 47 = 8 := by kernel_rfl
theorem tyzero47 : zeroA Try.prog 47 = some (.nilfn) := by kernel_rfl
theorem tyagg47 : aggT Try.prog 47 = false := by kernel_rfl
theorem tyval47 (cs : List AV) : valAt Try.prog 47 cs = cs.head? := valAt_one (by kernel_rfl) tyagg47 cs
theorem tycells48 : Try.prog.cellsOf 48 = 1 := by kernel_rfl
theorem tybytes48 : Try.prog.bytesOf 48 = 8 := by kernel_rfl
theorem tyzero48 : zeroA Try.prog 48 = some (.nilfn) := by kernel_rfl
theorem tyagg48 : aggT Try.prog 48 = false := by kernel_rfl
theorem tyval48 (cs : List AV) : valAt Try.prog 48 cs = cs.head? := valAt_one (by kernel_rfl) tyagg48 cs
theorem tycells49 : Try.prog.cellsOf 49 = 1 := by kernel_rfl
theorem tybytes49 : Try.prog.bytesOf 49 = 8 := by kernel_rfl
theorem tyzero49 : zeroA Try.prog 49 = some (.nilfn) := by kernel_rfl
theorem tyagg49 : aggT Try.prog 49 = false := by kernel_rfl
theorem tyval49 (cs : List AV) : valAt Try.prog 49 cs = cs.head? := valAt_one (by kernel_rfl) tyagg49 cs
theorem tycells50 : Try.prog.cellsOf 50 = 1 := by kernel_rfl
theorem tybytes50 : Try.prog.bytesOf 50 = 8 := by kernel_rfl
theorem tyzero50 : zeroA Try.prog 50 = some (.nilfn) := by kernel_rfl
theorem tyagg50 : aggT Try.prog 50 = false := by kernel_rfl
theorem tyval50 (cs : List AV) : valAt Try.prog 50 cs = cs.head? := valAt_one (by kernel_rfl) tyagg50 cs
theorem tycells51 : Try.prog.cellsOf 51 = 1 := by kernel_rfl
theorem tybytes51 : Try.prog.bytesOf 51 = 8 := by kernel_rfl
theorem tyzero51 : zeroA Try.prog 51 = some (.nilfn) := by kernel_rfl
theorem tyagg51 : aggT Try.prog 51 = false := by kernel_rfl
theorem tyval51 (cs : List AV) : valAt Try.prog 51 cs = cs.head? := valAt_one (by kernel_rfl) tyagg51 cs
theorem tycells52 : Try.prog.cellsOf 52 = 1 := by kernel_rfl
theorem tybytes52 : Try.prog.bytesOf 52 = 8 := by kernel_rfl
theorem tyzero52 : zeroA Try.prog 52 = some (.nilfn) := by kernel_rfl
theorem tyagg52 : aggT Try.prog 52 = false := by kernel_rfl
theorem tyval52 (cs : List AV) : valAt Try.prog 52 cs = cs.head? := valAt_one (by kernel_rfl) tyagg52 cs
theorem tycells53 : Try.prog.cellsOf 53 = 1 := by kernel_rfl
theorem tybytes53 : Try.prog.bytesOf 53 = 8 := by kernel_rfl
theorem tyzero53 : zeroA Try.prog 53 = some (.nilfn) := by kernel_rfl
theorem tyagg53 : aggT Try.prog 53 = false := by kernel_rfl
theorem tyval53 (cs : List AV) : valAt Try.prog 53 cs = cs.head? := valAt_one (by kernel_rfl) tyagg53 cs
theorem tycells54 : Try.prog.cellsOf 54 = 1 := by kernel_rfl
theorem tybytes54 : Try.prog.bytesOf 54 = 0 := by kernel_rfl
theorem tyagg54 : aggT Try.prog 54 = false := by kernel_rfl
theorem tyval54 (cs : List AV) : valAt Try.prog 54 cs = cs.head? := valAt_one (by kernel_rfl) tyagg54 cs
theorem tycells55 : Try.prog.cellsOf 55 = 1 := by kernel_rfl
theorem tybytes55 : Try.prog.bytesOf 55 = 8 := by kernel_rfl
theorem tyzero55 : zeroA Try.prog 55 = some (.nilfn) := by kernel_rfl
theorem tyagg55 : aggT Try.prog 55 = false := by kernel_rfl
theorem tyval55 (cs : List AV) : valAt Try.prog 55 cs = cs.head? := valAt_one (by kernel_rfl) tyagg55 cs
theorem tycells56 : Try.prog.cellsOf 56 = 1 := by kernel_rfl
theorem tybytes56 : Try.prog.bytesOf 56 = 8 := by kernel_rfl
theorem tyzero56 : zeroA Try.prog 56 = some (.nilfn) := by kernel_rfl
theorem tyagg56 : aggT Try.prog 56 = false := by kernel_rfl
theorem tyval56 (cs : List AV) : valAt Try.prog 56 cs = cs.head? := valAt_one (by kernel_rfl) tyagg56 cs
theorem tycells57 : Try.prog.cellsOf 57 = 1 := by kernel_rfl
theorem tybytes57 : Try.prog.bytesOf 57 = 8 := by kernel_rfl
theorem tyzero57 : zeroA Try.prog 57 = some (.nilfn) := by kernel_rfl
theorem tyagg57 : aggT Try.prog 57 = false := by kernel_rfl
theorem tyval57 (cs : List AV) : valAt Try.prog 57 cs = cs.head? := valAt_one (by kernel_rfl) tyagg57 cs
theorem tycells58 : Try.prog.cellsOf 58 = 1 := by kernel_rfl
theorem tybytes58 : Try.prog.bytesOf 58 = 8 := by kernel_rfl
theorem tyzero58 : zeroA Try.prog 58 = some (.nilfn) := by kernel_rfl
theorem tyagg58 : aggT Try.prog 58 = false := by kernel_rfl
theorem tyval58 (cs : List AV) : valAt Try.prog 58 cs = cs.head? := valAt_one (by kernel_rfl) tyagg58 cs
theorem tycells59 : Try.prog.cellsOf 59 = 1 := by kernel_rfl
theorem tybytes59 : Try.prog.bytesOf 59 = 8 := by kernel_rfl
theorem tyzero59 : zeroA Try.prog 59 = some (.nilfn) := by kernel_rfl
theorem tyagg59 : aggT Try.prog 59 = false := by kernel_rfl
theorem tyval59 (cs : List AV) : valAt Try.prog 59 cs = cs.head? := valAt_one (by kernel_rfl) tyagg59 cs
theorem tycells60 : Try.prog.cellsOf 60 = 1 := by kernel_rfl
theorem tybytes60 : Try.prog.bytesOf 60 = 0 := by kernel_rfl
theorem tyagg60 : aggT Try.prog 60 = false := by kernel_rfl
theorem tyval60 (cs : List AV) : valAt Try.prog 60 cs = cs.head? := valAt_one (by kernel_rfl) tyagg60 cs
theorem tycells61 : Try.prog.cellsOf 61 = 1 := by kernel_rfl
theorem tybytes61 : Try.prog.bytesOf 61 = 8 := by kernel_rfl
theorem tyzero61 : zeroA Try.prog 61 = some (.nilfn) := by kernel_rfl
theorem tyagg61 : aggT Try.prog 61 = false := by kernel_rfl
theorem tyval61 (cs : List AV) : valAt Try.prog 61 cs = cs.head? := valAt_one (by kernel_rfl) tyagg61 cs
theorem tycells62 : Try.prog.cellsOf 62 = 1 := by kernel_rfl
theorem tybytes62 : Try.prog.bytesOf 62 = 8 := by kernel_rfl
theorem tyzero62 : zeroA Try.prog 62 = some (.nilfn) := by kernel_rfl
theorem tyagg62 : aggT Try.prog 62 = false := by kernel_rfl
theorem tyval62 (cs : List AV) : valAt Try.prog 62 cs = cs.head? := valAt_one (by kernel_rfl) tyagg62 cs
theorem tycells63 : Try.prog.cellsOf 63 = 2 := by kernel_rfl
theorem tybytes63 : Try.prog.bytesOf 63 = 24 := by kernel_rfl
theorem tyzero63 : zeroA Try.prog 63 = some (.agg [.str [], .int .i64 (0)]) := by kernel_rfl
theorem tyagg63 : aggT Try.prog 63 = true := by kernel_rfl
theorem tyval63 (cs : List AV) : valAt Try.prog 63 cs = if 2 ≤ cs.length then some (.agg (cs.take 2)) else none := by rw [valAt_agg tyagg63, tycells63]
theorem tyfa63_0 (a : AV) : fieldAddrA Try.prog 63 a 0 = addOff a 0 := fieldAddrA_at (k := 0) (by kernel_rfl) a
theorem tysp63_0 : structPlaces Try.prog 63 0 = some (0, 1) := by kernel_rfl
theorem tyfd63_0 (cs : List AV) : fieldA Try.prog 63 (.agg cs) 0 = valAt Try.prog 9 (cs.drop 0) := fieldA_at (by kernel_rfl) cs
theorem tyfa63_1 (a : AV) : fieldAddrA Try.prog 63 a 1 = addOff a 1 := fieldAddrA_at (k := 0) (by kernel_rfl) a
theorem tysp63_1 : structPlaces Try.prog 63 1 = some (1, 1) := by kernel_rfl
theorem tyfd63_1 (cs : List AV) : fieldA Try.prog 63 (.agg cs) 1 = valAt Try.prog 3 (cs.drop 1) := fieldA_at (by kernel_rfl) cs
theorem tycells64 : Try.prog.cellsOf 64 = 2 := by kernel_rfl
theorem tybytes64 : Try.prog.bytesOf 64 = 24 := by kernel_rfl
theorem tyzero64 : zeroA Try.prog 64 = some (.agg [.str [], .int .i64 (0)]) := by kernel_rfl
theorem tyagg64 : aggT Try.prog 64 = true := by kernel_rfl
theorem tyval64 (cs : List AV) : valAt Try.prog 64 cs = if 2 ≤ cs.length then some (.agg (cs.take 2)) else none := by rw [valAt_agg tyagg64, tycells64]
theorem tyfa64_0 (a : AV) : fieldAddrA Try.prog 64 a 0 = addOff a 0 := fieldAddrA_at (k := 0) (by kernel_rfl) a
theorem tysp64_0 : structPlaces Try.prog 64 0 = some (0, 1) := by kernel_rfl
theorem tyfd64_0 (cs : List AV) : fieldA Try.prog 64 (.agg cs) 0 = valAt Try.prog 9 (cs.drop 0) := fieldA_at (by kernel_rfl) cs
theorem tyfa64_1 (a : AV) : fieldAddrA Try.prog 64 a 1 = addOff a 1 := fieldAddrA_at (k := 0) (by kernel_rfl) a
theorem tysp64_1 : structPlaces Try.prog 64 1 = some (1, 1) := by kernel_rfl
theorem tyfd64_1 (cs : List AV) : fieldA Try.prog 64 (.agg cs) 1 = valAt Try.prog 3 (cs.drop 1) := fieldA_at (by kernel_rfl) cs
theorem tycells65 : Try.prog.cellsOf 65 = 1 := by kernel_rfl
theorem tybytes65 : Try.prog.bytesOf 65 = 8 := by kernel_rfl
theorem tyzero65 : zeroA Try.prog 65 = some (.nilfn) := by kernel_rfl
theorem tyagg65 : aggT Try.prog 65 = false := by kernel_rfl
theorem tyval65 (cs : List AV) : valAt Try.prog 65 cs = cs.head? := valAt_one (by kernel_rfl) tyagg65 cs
theorem tycells66 : Try.prog.cellsOf 66 = 1 := by kernel_rfl
theorem tybytes66 : Try.prog.bytesOf 66 = 8 := by kernel_rfl
theorem tyzero66 : zeroA Try.prog 66 = some (.nilfn) := by kernel_rfl
theorem tyagg66 : aggT Try.prog 66 = false := by kernel_rfl
theorem tyval66 (cs : List AV) : valAt Try.prog 66 cs = cs.head? := valAt_one (by kernel_rfl) tyagg66 cs
theorem tycells67 : Try.prog.cellsOf 67 = 1 := by kernel_rfl
theorem tybytes67 : Try.prog.bytesOf 67 = 8 := by kernel_rfl
theorem tyzero67 : zeroA Try.prog 67 = some (.nilptr) := by kernel_rfl
theorem tyagg67 : aggT Try.prog 67 = false := by kernel_rfl
theorem tyval67 (cs : List AV) : valAt Try.prog 67 cs = cs.head? := valAt_one (by kernel_rfl) tyagg67 cs
theorem tycells68 : Try.prog.cellsOf 68 = 1 := by kernel_rfl
theorem tybytes68 : Try.prog.bytesOf 68 = 8 := by kernel_rfl
theorem tyzero68 : zeroA Try.prog 68 = some (.nilfn) := by kernel_rfl
theorem tyagg68 : aggT Try.prog 68 = false := by kernel_rfl
theorem tyval68 (cs : List AV) : valAt Try.prog 68 cs = cs.head? := valAt_one (by kernel_rfl) tyagg68 cs
theorem tycells69 : Try.prog.cellsOf 69 = 1 := by kernel_rfl
theorem tybytes69 : Try.prog.bytesOf 69 = 8 := by kernel_rfl
theorem tyzero69 : zeroA Try.prog 69 = some (.nilptr) := by kernel_rfl
theorem tyagg69 : aggT Try.prog 69 = false := by kernel_rfl
theorem tyval69 (cs : List AV) : valAt Try.prog 69 cs = cs.head? := valAt_one (by kernel_rfl) tyagg69 cs
theorem tycells70 : Try.prog.cellsOf 70 = 1 := by kernel_rfl
theorem tybytes70 : Try.prog.bytesOf 70 = 24 := by kernel_rfl
theorem tyzero70 : zeroA Try.prog 70 = some (.agg [.nilsl]) := by kernel_rfl
theorem tyagg70 : aggT Try.prog 70 = true := by kernel_rfl
theorem tyval70 (cs : List AV) : valAt Try.prog 70 cs = if 1 ≤ cs.length then some (.agg (cs.take 1)) else none := by rw [valAt_agg tyagg70, tycells70]
theorem tyfa70_0 (a : AV) : fieldAddrA Try.prog 70 a 0 = addOff a 0 := fieldAddrA_at (k := 0) (by kernel_rfl) a
theorem tysp70_0 : structPlaces Try.prog 70 0 = some (0, 1) := by kernel_rfl
theorem tyfd70_0 (cs : List AV) : fieldA Try.prog 70 (.agg cs) 0 = valAt Try.prog 28 (cs.drop 0) := fieldA_at (by kernel_rfl) cs
theorem tycells71 : Try.prog.cellsOf 71 = 1 := by kernel_rfl
theorem tybytes71 : Try.prog.bytesOf 71 = 24 := by kernel_rfl
theorem tyzero71 : zeroA Try.prog 71 = some (.agg [.nilsl]) := by kernel_rfl
theorem tyagg71 : aggT Try.prog 71 = true := by kernel_rfl
theorem tyval71 (cs : List AV) : valAt Try.prog 71 cs = if 1 ≤ cs.length then some (.agg (cs.take 1)) else none := by rw [valAt_agg tyagg71, tycells71]
theorem tyfa71_0 (a : AV) : fieldAddrA Try.prog 71 a 0 = addOff a 0 := fieldAddrA_at (k := 0) (by kernel_rfl) a
theorem tysp71_0 : structPlaces Try.prog 71 0 = some (0, 1) := by kernel_rfl
theorem tyfd71_0 (cs : List AV) : fieldA Try.prog 71 (.agg cs) 0 = valAt Try.prog 28 (cs.drop 0) := fieldA_at (by kernel_rfl) cs
theorem tycells72 : Try.prog.cellsOf 72 = 1 := by kernel_rfl
theorem tybytes72 : Try.prog.bytesOf 72 = 24 := by kernel_rfl
theorem tyzero72 : zeroA Try.prog 72 = some (.agg [.nilsl]) := by kernel_rfl
theorem tyagg72 : aggT Try.prog 72 = true := by kernel_rfl
theorem tyval72 (cs : List AV) : valAt Try.prog 72 cs = if 1 ≤ cs.length then some (.agg (cs.take 1)) else none := by rw [valAt_agg tyagg72, tycells72]
theorem tyfa72_0 (a : AV) : fieldAddrA Try.prog 72 a 0 = addOff a 0 := fieldAddrA_at (k := 0) (by kernel_rfl) a
theorem tysp72_0 : structPlaces Try.prog 72 0 = some (0, 1) := by kernel_rfl
theorem tyfd72_0 (cs : List AV) : fieldA Try.prog 72 (.agg cs) 0 = valAt Try.prog 71 (cs.drop 0) := fieldA_at (by kernel_rfl) cs
theorem tycells73 : Try.prog.cellsOf 73 = 1 := by kernel_rfl
theorem tybytes73 : Try.prog.bytesOf 73 = 24 := by kernel_rfl
theorem tyzero73 : zeroA Try.prog 73 = some (.agg [.nilsl]) := by kernel_rfl
theorem tyagg73 : aggT Try.prog 73 = true := by kernel_rfl
theorem tyval73 (cs : List AV) : valAt Try.prog 73 cs = if 1 ≤ cs.length then some (.agg (cs.take 1)) else none := by rw [valAt_agg tyagg73, tycells73]
theorem tyfa73_0 (a : AV) : fieldAddrA Try.prog 73 a 0 = addOff a 0 := fieldAddrA_at (k := 0) (by kernel_rfl) a
theorem tysp73_0 : structPlaces Try.prog 73 0 = some (0, 1) := by kernel_rfl
theorem tyfd73_0 (cs : List AV) : fieldA Try.prog 73 (.agg cs) 0 = valAt Try.prog 71 (cs.drop 0) := fieldA_at (by kernel_rfl) cs
theorem tycells74 : Try.prog.cellsOf 74 = 1 := by kernel_rfl
theorem tybytes74 : Try.prog.bytesOf 74 = 8 := by kernel_rfl
theorem tyzero74 : zeroA Try.prog 74 = some (.nilfn) := by kernel_rfl
theorem tyagg74 : aggT Try.prog 74 = false := by kernel_rfl
theorem tyval74 (cs : List AV) : valAt Try.prog 74 cs = cs.head? := valAt_one (by kernel_rfl) tyagg74 cs
theorem tycells75 : Try.prog.cellsOf 75 = 1 := by kernel_rfl
theorem tybytes75 : Try.prog.bytesOf 75 = 8 := by kernel_rfl
theorem tyzero75 : zeroA Try.prog 75 = some (.nilfn) := by kernel_rfl
theorem tyagg75 : aggT Try.prog 75 = false := by kernel_rfl
theorem tyval75 (cs : List AV) : valAt Try.prog 75 cs = cs.head? := valAt_one (by kernel_rfl) tyagg75 cs
theorem tycells76 : Try.prog.cellsOf 76 = 1 := by kernel_rfl
theorem tybytes76 : Try.prog.bytesOf 76 = 8 := by kernel_rfl
theorem tyzero76 : zeroA Try.prog 76 = some (.nilfn) := by kernel_rfl
theorem tyagg76 : aggT Try.prog 76 = false := by kernel_rfl
theorem tyval76 (cs : List AV) : valAt Try.prog 76 cs = cs.head? := valAt_one (by kernel_rfl) tyagg76 cs
theorem tycells77 : Try.prog.cellsOf 77 = 1 := by kernel_rfl
theorem tybytes77 : Try.prog.bytesOf 77 = 8 := by kernel_rfl
theorem tyzero77 : zeroA Try.prog 77 = some (.nilfn) := by kernel_rfl
theorem tyagg77 : aggT Try.prog 77 = false := by kernel_rfl
theorem tyval77 (cs : List AV) : valAt Try.prog 77 cs = cs.head? := valAt_one (by kernel_rfl) tyagg77 cs
theorem tycells78 : Try.prog.cellsOf 78 = 1 := by kernel_rfl
theorem tybytes78 : Try.prog.bytesOf 78 = 8 := by kernel_rfl
theorem tyzero78 : zeroA Try.prog 78 = some (.nilptr) := by kernel_rfl
theorem tyagg78 : aggT Try.prog 78 = false := by kernel_rfl
theorem tyval78 (cs : List AV) : valAt Try.prog 78 cs = cs.head? := valAt_one (by kernel_rfl) tyagg78 cs
theorem tycells79 : Try.prog.cellsOf 79 = 1 := by kernel_rfl
theorem tybytes79 : Try.prog.bytesOf 79 = 24 := by kernel_rfl
theorem tyzero79 : zeroA Try.prog 79 = some (.agg [.nilsl]) := by kernel_rfl
theorem tyagg79 : aggT Try.prog 79 = true := by kernel_rfl
theorem tyval79 (cs : List AV) : valAt Try.prog 79 cs = if 1 ≤ cs.length then some (.agg (cs.take 1)) else none := by rw [valAt_agg tyagg79, tycells79]
theorem tyfa79_0 (a : AV) : fieldAddrA Try.prog 79 a 0 = addOff a 0 := fieldAddrA_at (k := 0) (by kernel_rfl) a
theorem tysp79_0 : structPlaces Try.prog 79 0 = some (0, 1) := by kernel_rfl
theorem tyfd79_0 (cs : List AV) : fieldA Try.prog 79 (.agg cs) 0 = valAt Try.prog 71 (cs.drop 0) := fieldA_at (by kernel_rfl) cs
theorem tycells80 : Try.prog.cellsOf 80 = 1 := by kernel_rfl
theorem tybytes80 : Try.prog.bytesOf 80 = 8 := by kernel_rfl
theorem tyzero80 : zeroA Try.prog 80 = some (.nilfn) := by kernel_rfl
theorem tyagg80 : aggT Try.prog 80 = false := by kernel_rfl
theorem tyval80 (cs : List AV) : valAt Try.prog 80 cs = cs.head? := valAt_one (by kernel_rfl) tyagg80 cs
theorem tycells81 : Try.prog.cellsOf 81 = 1 := by kernel_rfl
theorem tybytes81 : Try.prog.bytesOf 81 = 8 := by kernel_rfl
theorem tyzero81 : zeroA Try.prog 81 = some (.nilfn) := by kernel_rfl
theorem tyagg81 : aggT Try.prog 81 = false := by kernel_rfl
theorem tyval81 (cs : List AV) : valAt Try.prog 81 cs = cs.head? := valAt_one (by kernel_rfl) tyagg81 cs
theorem tycells82 : Try.prog.cellsOf 82 = 1 := by kernel_rfl
theorem tybytes82 : Try.prog.bytesOf 82 = 8 := by kernel_rfl
theorem tyzero82 : zeroA Try.prog 82 = some (.nilfn) := by kernel_rfl
theorem tyagg82 : aggT Try.prog 82 = false := by kernel_rfl
theorem tyval82 (cs : List AV) : valAt Try.prog 82 cs = cs.head? := valAt_one (by kernel_rfl) tyagg82 cs
theorem tycells83 : Try.prog.cellsOf 83 = 1 := by kernel_rfl
theorem tybytes83 : Try.prog.bytesOf 83 = 8 := by kernel_rfl
theorem tyzero83 : zeroA Try.prog 83 = some (.nilfn) := by kernel_rfl
theorem tyagg83 : aggT Try.prog 83 = false := by kernel_rfl
theorem tyval83 (cs : List AV) : valAt Try.prog 83 cs = cs.head? := valAt_one (by kernel_rfl) tyagg83 cs
theorem tycells84 : Try.prog.cellsOf 84 = 1 := by kernel_rfl
theorem tybytes84 : Try.prog.bytesOf 84 = 8 := by kernel_rfl
theorem tyzero84 : zeroA Try.prog 84 = some (.nilfn) := by kernel_rfl
theorem tyagg84 : aggT Try.prog 84 = false := by kernel_rfl
theorem tyval84 (cs : List AV) : valAt Try.prog 84 cs = cs.head? := valAt_one (by kernel_rfl) tyagg84 cs
theorem tycells85 : Try.prog.cellsOf 85 = 1 := by kernel_rfl
theorem tybytes85 : Try.prog.bytesOf 85 = 8 := by kernel_rfl
theorem tyzero85 : zeroA Try.prog 85 = some (.nilfn) := by kernel_rfl
theorem tyagg85 : aggT Try.prog 85 = false := by kernel_rfl
theorem tyval85 (cs : List AV) : valAt Try.prog 85 cs = cs.head? := valAt_one (by kernel_rfl) tyagg85 cs
theorem tycells86 : Try.prog.cellsOf 86 = 1 := by kernel_rfl
theorem tybytes86 : Try.prog.bytesOf 86 = 8 := by kernel_rfl
theorem tyzero86 : zeroA Try.prog 86 = some (.nilfn) := by kernel_rfl
theorem tyagg86 : aggT Try.prog 86 = false := by kernel_rfl
theorem tyval86 (cs : List AV) : valAt Try.prog 86 cs = cs.head? := valAt_one (by kernel_rfl) tyagg86 cs
theorem tycells87 : Try.prog.cellsOf 87 = 1 := by kernel_rfl
theorem tybytes87 : Try.prog.bytesOf 87 = 8 := by kernel_rfl
theorem tyzero87 : zeroA Try.prog 87 = some (.nilfn) := by kernel_rfl
theorem tyagg87 : aggT Try.prog 87 = false := by kernel_rfl
theorem tyval87 (cs : List AV) : valAt Try.prog 87 cs = cs.head? := valAt_one (by kernel_rfl) tyagg87 cs
theorem tycells88 : Try.prog.cellsOf 88 = 1 := by kernel_rfl
theorem tybytes88 : Try.prog.bytesOf 88 = 8 := by kernel_rfl
theorem tyzero88 : zeroA Try.prog 88 = some (.nilfn) := by kernel_rfl
theorem tyagg88 : aggT Try.prog 88 = false := by kernel_rfl
theorem tyval88 (cs : List AV) : valAt Try.prog 88 cs = cs.head? := valAt_one (by kernel_rfl) tyagg88 cs
theorem tycells89 : Try.prog.cellsOf 89 = 1 := by kernel_rfl
theorem tybytes89 : Try.prog.bytesOf 89 = 8 := by kernel_rfl
theorem tyzero89 : zeroA Try.prog 89 = some (.nilfn) := by kernel_rfl
theorem tyagg89 : aggT Try.prog 89 = false := by kernel_rfl
theorem tyval89 (cs : List AV) : valAt Try.prog 89 cs = cs.head? := valAt_one (by kernel_rfl) tyagg89 cs
theorem tycells90 : Try.prog.cellsOf 90 = 1 := by kernel_rfl
theorem tybytes90 : Try.prog.bytesOf 90 = 8 := by kernel_rfl
theorem tyzero90 : zeroA Try.prog 90 = some (.nilfn) := by kernel_rfl
theorem tyagg90 : aggT Try.prog 90 = false := by kernel_rfl
theorem tyval90 (cs : List AV) : valAt Try.prog 90 cs = cs.head? := valAt_one (by kernel_rfl) tyagg90 cs
theorem tycells91 : Try.prog.cellsOf 91 = 1 := by kernel_rfl
theorem tybytes91 : Try.prog.bytesOf 91 = 8 := by kernel_rfl
theorem tyzero91 : zeroA Try.prog 91 = some (.nilfn) := by kernel_rfl
theorem tyagg91 : aggT Try.prog 91 = false := by kernel_rfl
theorem tyval91 (cs : List AV) : valAt Try.prog 91 cs = cs.head? := valAt_one (by kernel_rfl) tyagg91 cs
theorem tycells92 : Try.prog.cellsOf 92 = 1 := by kernel_rfl
theorem tybytes92 : Try.prog.bytesOf 92 = 8 := by kernel_rfl
theorem tyzero92 : zeroA Try.prog 92 = some (.nilfn) := by kernel_rfl
theorem tyagg92 : aggT Try.prog 92 = false := by kernel_rfl
theorem tyval92 (cs : List AV) : valAt Try.prog 92 cs = cs.head? := valAt_one (by kernel_rfl) tyagg92 cs
theorem tycells93 : Try.prog.cellsOf 93 = 1 := by kernel_rfl
theorem tybytes93 : Try.prog.bytesOf 93 = 8 := by kernel_rfl
theorem tyzero93 : zeroA Try.prog 93 = some (.nilfn) := by kernel_rfl
theorem tyagg93 : aggT Try.prog 93 = false := by kernel_rfl
theorem tyval93 (cs : List AV) : valAt Try.prog 93 cs = cs.head? := valAt_one (by kernel_rfl) tyagg93 cs
theorem tycells94 : Try.prog.cellsOf 94 = 1 := by kernel_rfl
theorem tybytes94 : Try.prog.bytesOf 94 = 0 := by kernel_rfl
theorem tyagg94 : aggT Try.prog 94 = false := by kernel_rfl
theorem tyval94 (cs : List AV) : valAt Try.prog 94 cs = cs.head? := valAt_one (by kernel_rfl) tyagg94 cs
theorem tycells95 : Try.prog.cellsOf 95 = 1 := by kernel_rfl
theorem tybytes95 : Try.prog.bytesOf 95 = 8 := by kernel_rfl
theorem tyzero95 : zeroA Try.prog 95 = some (.nilfn) := by kernel_rfl
theorem tyagg95 : aggT Try.prog 95 = false := by kernel_rfl
theorem tyval95 (cs : List AV) : valAt Try.prog 95 cs = cs.head? := valAt_one (by kernel_rfl) tyagg95 cs
theorem tycells96 : Try.prog.cellsOf 96 = 1 := by kernel_rfl
theorem tybytes96 : Try.prog.bytesOf 96 = 8 := by kernel_rfl
theorem tyzero96 : zeroA Try.prog 96 = some (.nilfn) := by kernel_rfl
theorem tyagg96 : aggT Try.prog 96 = false := by kernel_rfl
theorem tyval96 (cs : List AV) : valAt Try.prog 96 cs = cs.head? := valAt_one (by kernel_rfl) tyagg96 cs
theorem tycells97 : Try.prog.cellsOf 97 = 1 := by kernel_rfl
theorem tybytes97 : Try.prog.bytesOf 97 = 24 := by kernel_rfl
theorem tyzero97 : zeroA Try.prog 97 = some (.nilsl) := by kernel_rfl
theorem tyagg97 : aggT Try.prog 97 = false := by kernel_rfl
theorem tyval97 (cs : List AV) : valAt Try.prog 97 cs = cs.head? := valAt_one (by kernel_rfl) tyagg97 cs
theorem tycells98 : Try.prog.cellsOf 98 = 1 := by kernel_rfl
theorem tybytes98 : Try.prog.bytesOf 98 = 24 := by kernel_rfl
theorem tyzero98 : zeroA Try.prog 98 = some (.nilsl) := by kernel_rfl
theorem tyagg98 : aggT Try.prog 98 = false := by kernel_rfl
theorem tyval98 (cs : List AV) : valAt Try.prog 98 cs = cs.head? := valAt_one (by kernel_rfl) tyagg98 cs
theorem tycells99 : Try.prog.cellsOf 99 = 1 := by kernel_rfl
theorem tybytes99 : Try.prog.bytesOf 99 = 4 := by kernel_rfl
theorem tyzero99 : zeroA Try.prog 99 = some (.int .u32 (0)) := by kernel_rfl
theorem tyagg99 : aggT Try.prog 99 = false := by kernel_rfl
theorem tyval99 (cs : List AV) : valAt Try.prog 99 cs = cs.head? := valAt_one (by kernel_rfl) tyagg99 cs
theorem tycells100 : Try.prog.cellsOf 100 = 1 := by kernel_rfl
theorem tybytes100 : Try.prog.bytesOf 100 = 8 := by kernel_rfl
theorem tyzero100 : zeroA Try.prog 100 = some (.int .u64 (0)) := by kernel_rfl
theorem tyagg100 : aggT Try.prog 100 = false := by kernel_rfl
theorem tyval100 (cs : List AV) : valAt Try.prog 100 cs = cs.head? := valAt_one (by kernel_rfl) tyagg100 cs
theorem tycells101 : Try.prog.cellsOf 101 = 1 := by kernel_rfl
theorem tybytes101 : Try.prog.bytesOf 101 = 8 := by kernel_rfl
theorem tyzero101 : zeroA Try.prog 101 = some (.nilfn) := by kernel_rfl
theorem tyagg101 : aggT Try.prog 101 = false := by kernel_rfl
theorem tyval101 (cs : List AV) : valAt Try.prog 101 cs = cs.head? := valAt_one (by kernel_rfl) tyagg101 cs
theorem tycells102 : Try.prog.cellsOf 102 = 1 := by kernel_rfl
theorem tybytes102 : Try.prog.bytesOf 102 = 8 := by kernel_rfl
theorem tyzero102 : zeroA Try.prog 102 = some (.nilfn) := by kernel_rfl
theorem tyagg102 : aggT Try.prog 102 = false := by kernel_rfl
theorem tyval102 (cs : List AV) : valAt Try.prog 102 cs = cs.head? := valAt_one (by kernel_rfl) tyagg102 cs
theorem tycells103 : Try.prog.cellsOf 103 = 1 := by kernel_rfl
theorem tybytes103 : Try.prog.bytesOf 103 = 8 := by kernel_rfl
theorem tyzero103 : zeroA Try.prog 103 = some (.nilfn) := by kernel_rfl
theorem tyagg103 : aggT Try.prog 103 = false := by kernel_rfl
theorem tyval103 (cs : List AV) : valAt Try.prog 103 cs = cs.head? := valAt_one (by kernel_rfl) tyagg103 cs
theorem tycells104 : Try.prog.cellsOf 104 = 1 := by kernel_rfl
theorem tybytes104 : Try.prog.bytesOf 104 = 8 := by kernel_rfl
theorem tyzero104 : zeroA Try.prog 104 = some (.nilfn) := by kernel_rfl
theorem tyagg104 : aggT Try.prog 104 = false := by kernel_rfl
theorem tyval104 (cs : List AV) : valAt Try.prog 104 cs = cs.head? := valAt_one (by kernel_rfl) tyagg104 cs
theorem tycells105 : Try.prog.cellsOf 105 = 1 := by kernel_rfl
theorem tybytes105 : Try.prog.bytesOf 105 = 24 := by kernel_rfl
theorem tyzero105 : zeroA Try.prog 105 = some (.nilsl) := by kernel_rfl
theorem tyagg105 : aggT Try.prog 105 = false := by kernel_rfl
theorem tyval105 (cs : List AV) : valAt Try.prog 105 cs = cs.head? := valAt_one (by kernel_rfl) tyagg105 cs
theorem tycells106 : Try.prog.cellsOf 106 = 1 := by kernel_rfl
theorem tybytes106 : Try.prog.bytesOf 106 = 8 := by kernel_rfl
theorem tyzero106 : zeroA Try.prog 106 = some (.nilfn) := by kernel_rfl
theorem tyagg106 : aggT Try.prog 106 = false := by kernel_rfl
theorem tyval106 (cs : List AV) : valAt Try.prog 106 cs = cs.head? := valAt_one (by kernel_rfl) tyagg106 cs
theorem tycells107 : Try.prog.cellsOf 107 = 1 := by kernel_rfl
theorem tybytes107 : Try.prog.bytesOf 107 = 8 := by kernel_rfl
theorem tyzero107 : zeroA Try.prog 107 = some (.nilfn) := by kernel_rfl
theorem tyagg107 : aggT Try.prog 107 = false := by kernel_rfl
theorem tyval107 (cs : List AV) : valAt Try.prog 107 cs = cs.head? := valAt_one (by kernel_rfl) tyagg107 cs
theorem tycells108 : Try.prog.cellsOf 108 = 1 := by kernel_rfl
theorem tybytes108 : Try.prog.bytesOf 108 = 8 := by kernel_rfl
theorem tyzero108 : zeroA Try.prog 108 = some (.nilfn) := by kernel_rfl
theorem tyagg108 : aggT Try.prog 108 = false := by kernel_rfl
theorem tyval108 (cs : List AV) : valAt Try.prog 108 cs = cs.head? := valAt_one (by kernel_rfl) tyagg108 cs
theorem tycells109 : Try.prog.cellsOf 109 = 1 := by kernel_rfl
theorem tybytes109 : Try.prog.bytesOf 109 = 8 := by kernel_rfl
theorem tyzero109 : zeroA Try.prog 109 = some (.nilfn) := by kernel_rfl
theorem tyagg109 : aggT Try.prog 109 = false := by kernel_rfl
theorem tyval109 (cs : List AV) : valAt Try.prog 109 cs = cs.head? := valAt_one (by kernel_rfl) tyagg109 cs
theorem tycells110 : Try.prog.cellsOf 110 = 1 := by kernel_rfl
theorem tybytes110 : Try.prog.bytesOf 110 = 8 := by kernel_rfl
theorem tyzero110 : zeroA Try.prog 110 = some (.nilfn) := by kernel_rfl
theorem tyagg110 : aggT Try.prog 110 = false := by kernel_rfl
theorem tyval110 (cs : List AV) : valAt Try.prog 110 cs = cs.head? := valAt_one (by kernel_rfl) tyagg110 cs
theorem tycells111 : Try.prog.cellsOf 111 = 1 := by kernel_rfl
theorem tybytes111 : Try.prog.bytesOf 111 = 8 := by kernel_rfl
theorem tyzero111 : zeroA Try.prog 111 = some (.nilfn) := by kernel_rfl
theorem tyagg111 : aggT Try.prog 111 = false := by kernel_rfl
theorem tyval111 (cs : List AV) : valAt Try.prog 111 cs = cs.head? := valAt_one (by kernel_rfl) tyagg111 cs
theorem tycells112 : Try.prog.cellsOf 112 = 1 := by kernel_rfl
theorem tybytes112 : Try.prog.bytesOf 112 = 24 := by kernel_rfl
theorem tyzero112 : zeroA Try.prog 112 = some (.nilsl) := by kernel_rfl
theorem tyagg112 : aggT Try.prog 112 = false := by kernel_rfl
theorem tyval112 (cs : List AV) : valAt Try.prog 112 cs = cs.head? := valAt_one (by kernel_rfl) tyagg112 cs
theorem tycells113 : Try.prog.cellsOf 113 = 1 := by kernel_rfl
theorem tybytes113 : Try.prog.bytesOf 113 = 8 := by kernel_rfl
theorem tyzero113 : zeroA Try.prog 113 = some (.nilfn) := by kernel_rfl
theorem tyagg113 : aggT Try.prog 113 = false := by kernel_rfl
theorem tyval113 (cs : List AV) : valAt Try.prog 113 cs = cs.head? := valAt_one (by kernel_rfl) tyagg113 cs
theorem tycells114 : Try.prog.cellsOf 114 = 1 := by kernel_rfl
theorem tybytes114 : Try.prog.bytesOf 114 = 8 := by kernel_rfl
theorem tyzero114 : zeroA Try.prog 114 = some (.nilfn) := by kernel_rfl
theorem tyagg114 : aggT Try.prog 114 = false := by kernel_rfl
theorem tyval114 (cs : List AV) : valAt Try.prog 114 cs = cs.head? := valAt_one (by kernel_rfl) tyagg114 cs
theorem tycells115 : Try.prog.cellsOf 115 = 1 := by kernel_rfl
theorem tybytes115 : Try.prog.bytesOf 115 = 8 := by kernel_rfl
theorem tyzero115 : zeroA Try.prog 115 = some (.nilfn) := by kernel_rfl
theorem tyagg115 : aggT Try.prog 115 = false := by kernel_rfl
theorem tyval115 (cs : List AV) : valAt Try.prog 115 cs = cs.head? := valAt_one (by kernel_rfl) tyagg115 cs
theorem tycells116 : Try.prog.cellsOf 116 = 1 := by kernel_rfl
theorem tybytes116 : Try.prog.bytesOf 116 = 8 := by kernel_rfl
theorem tyzero116 : zeroA Try.prog 116 = some (.nilfn) := by kernel_rfl
theorem tyagg116 : aggT Try.prog 116 = false := by kernel_rfl
theorem tyval116 (cs : List AV) : valAt Try.prog 116 cs = cs.head? := valAt_one (by kernel_rfl) tyagg116 cs
theorem tycells117 : Try.prog.cellsOf 117 = 1 := by kernel_rfl
theorem tybytes117 : Try.prog.bytesOf 117 = 8 := by kernel_rfl
theorem tyzero117 : zeroA Try.prog 117 = some (.nilfn) := by kernel_rfl
theorem tyagg117 : aggT Try.prog 117 = false := by kernel_rfl
theorem tyval117 (cs : List AV) : valAt Try.prog 117 cs = cs.head? := valAt_one (by kernel_rfl) tyagg117 cs
theorem tycells118 : Try.prog.cellsOf 118 = 1 := by kernel_rfl
theorem tybytes118 : Try.prog.bytesOf 118 = 8 := by kernel_rfl
theorem tyzero118 : zeroA Try.prog 118 = some (.nilfn) := by kernel_rfl
theorem tyagg118 : aggT Try.prog 118 = false := by kernel_rfl
theorem tyval118 (cs : List AV) : valAt Try.prog 118 cs = cs.head? := valAt_one (by kernel_rfl) tyagg118 cs
theorem tycells119 : Try.prog.cellsOf 119 = 1 := by kernel_rfl
theorem tybytes119 : Try.prog.bytesOf 119 = 8 := by kernel_rfl
theorem tyzero119 : zeroA Try.prog 119 = some (.nilfn) := by kernel_rfl
theorem tyagg119 : aggT Try.prog 119 = false := by kernel_rfl
theorem tyval119 (cs : List AV) : valAt Try.prog 119 cs = cs.head? := valAt_one (by kernel_rfl) tyagg119 cs
theorem tycells120 : Try.prog.cellsOf 120 = 1 := by kernel_rfl
theorem tybytes120 : Try.prog.bytesOf 120 = 8 := by kernel_rfl
theorem tyzero120 : zeroA Try.prog 120 = some (.nilfn) := by kernel_rfl
theorem tyagg120 : aggT Try.prog 120 = false := by kernel_rfl
theorem tyval120 (cs : List AV) : valAt Try.prog 120 cs = cs.head? := valAt_one (by kernel_rfl) tyagg120 cs
theorem tycells121 : Try.prog.cellsOf 121 = 1 := by kernel_rfl
theorem tybytes121 : Try.prog.bytesOf 121 = 8 := by kernel_rfl
theorem tyzero121 : zeroA Try.prog 121 = some (.nilfn) := by kernel_rfl
theorem tyagg121 : aggT Try.prog 121 = false := by kernel_rfl
theorem tyval121 (cs : List AV) : valAt Try.prog 121 cs = cs.head? := valAt_one (by kernel_rfl) tyagg121 cs
theorem tycells122 : Try.prog.cellsOf 122 = 1 := by kernel_rfl
theorem tybytes122 : Try.prog.bytesOf 122 = 8 := by kernel_rfl
theorem tyzero122 : zeroA Try.prog 122 = some (.nilfn) := by kernel_rfl
theorem tyagg122 : aggT Try.prog 122 = false := by kernel_rfl
theorem tyval122 (cs : List AV) : valAt Try.prog 122 cs = cs.head? := valAt_one (by kernel_rfl) tyagg122 cs
theorem tycells123 : Try.prog.cellsOf 123 = 1 := by kernel_rfl
theorem tybytes123 : Try.prog.bytesOf 123 = 24 := by kernel_rfl
theorem tyzero123 : zeroA Try.prog 123 = some (.nilsl) := by kernel_rfl
theorem tyagg123 : aggT Try.prog 123 = false := by kernel_rfl
theorem tyval123 (cs : List AV) : valAt Try.prog 123 cs = cs.head? := valAt_one (by kernel_rfl) tyagg123 cs
theorem tycells124 : Try.prog.cellsOf 124 = 1 := by kernel_rfl
theorem tybytes124 : Try.prog.bytesOf 124 = 8 := by kernel_rfl
theorem tyzero124 : zeroA Try.prog 124 = some (.int .i64 (0)) := by kernel_rfl
theorem tyagg124 : aggT Try.prog 124 = false := by kernel_rfl
theorem tyval124 (cs : List AV) : valAt Try.prog 124 cs = cs.head? := valAt_one (by kernel_rfl) tyagg124 cs
theorem tycells125 : Try.prog.cellsOf 125 = 1 := by kernel_rfl
theorem tybytes125 : Try.prog.bytesOf 125 = 0 := by kernel_rfl
theorem tyagg125 : aggT Try.prog 125 = false := by kernel_rfl
theorem tyval125 (cs : List AV) : valAt Try.prog 125 cs = cs.head? := valAt_one (by kernel_rfl) tyagg125 cs
theorem tycells126 : Try.prog.cellsOf 126 = 1 := by kernel_rfl
theorem tybytes126 : Try.prog.bytesOf 126 = 8 := by kernel_rfl
theorem tyzero126 : zeroA Try.prog 126 = some (.nilfn) := by kernel_rfl
theorem tyagg126 : aggT Try.prog 126 = false := by kernel_rfl
theorem tyval126 (cs : List AV) : valAt Try.prog 126 cs = cs.head? := valAt_one (by kernel_rfl) tyagg126 cs
theorem tycells127 : Try.prog.cellsOf 127 = 1 := by kernel_rfl
theorem tybytes127 : Try.prog.bytesOf 127 = 8 := by kernel_rfl
theorem tyzero127 : zeroA Try.prog 127 = some (.nilfn) := by kernel_rfl
theorem tyagg127 : aggT Try.prog 127 = false := by kernel_rfl
theorem tyval127 (cs : List AV) : valAt Try.prog 127 cs = cs.head? := valAt_one (by kernel_rfl) tyagg127 cs
theorem tycells128 : Try.prog.cellsOf 128 = 1 := by kernel_rfl
theorem tybytes128 : Try.prog.bytesOf 128 = 8 := by kernel_rfl
theorem tyzero128 : zeroA Try.prog 128 = some (.nilfn) := by kernel_rfl
theorem tyagg128 : aggT Try.prog 128 = false := by kernel_rfl
theorem tyval128 (cs : List AV) : valAt Try.prog 128 cs = cs.head? := valAt_one (by kernel_rfl) tyagg128 cs
theorem tycells129 : Try.prog.cellsOf 129 = 1 := by kernel_rfl
theorem tybytes129 : Try.prog.bytesOf 129 = 8 := by kernel_rfl
theorem tyzero129 : zeroA Try.prog 129 = some (.nilfn) := by kernel_rfl
theorem tyagg129 : aggT Try.prog 129 = false := by kernel_rfl
theorem tyval129 (cs : List AV) : valAt Try.prog 129 cs = cs.head? := valAt_one (by kernel_rfl) tyagg129 cs
theorem tycells130 : Try.prog.cellsOf 130 = 1 := by kernel_rfl
theorem tybytes130 : Try.prog.bytesOf 130 = 8 := by kernel_rfl
theorem tyzero130 : zeroA Try.prog 130 = some (.nilfn) := by kernel_rfl
theorem tyagg130 : aggT Try.prog 130 = false := by kernel_rfl
theorem tyval130 (cs : List AV) : valAt Try.prog 130 cs = cs.head? := valAt_one (by kernel_rfl) tyagg130 cs
theorem tycells131 : Try.prog.cellsOf 131 = 1 := by kernel_rfl
theorem tybytes131 : Try.prog.bytesOf 131 = 8 := by kernel_rfl
theorem tyzero131 : zeroA Try.prog 131 = some (.nilfn) := by kernel_rfl
theorem tyagg131 : aggT Try.prog 131 = false := by kernel_rfl
theorem tyval131 (cs : List AV) : valAt Try.prog 131 cs = cs.head? := valAt_one (by kernel_rfl) tyagg131 cs
theorem tycells132 : Try.prog.cellsOf 132 = 1 := by kernel_rfl
theorem tybytes132 : Try.prog.bytesOf 132 = 8 := by kernel_rfl
theorem tyzero132 : zeroA Try.prog 132 = some (.nilfn) := by kernel_rfl
theorem tyagg132 : aggT Try.prog 132 = false := by kernel_rfl
theorem tyval132 (cs : List AV) : valAt Try.prog 132 cs = cs.head? := valAt_one (by kernel_rfl) tyagg132 cs
theorem tycells133 : Try.prog.cellsOf 133 = 1 := by kernel_rfl
theorem tybytes133 : Try.prog.bytesOf 133 = 8 := by kernel_rfl
theorem tyzero133 : zeroA Try.prog 133 = some (.nilfn) := by kernel_rfl
theorem tyagg133 : aggT Try.prog 133 = false := by kernel_rfl
theorem tyval133 (cs : List AV) : valAt Try.prog 133 cs = cs.head? := valAt_one (by kernel_rfl) tyagg133 cs
theorem tycells134 : Try.prog.cellsOf 134 = 1 := by kernel_rfl
theorem tybytes134 : Try.prog.bytesOf 134 = 8 := by kernel_rfl
theorem tyzero134 : zeroA Try.prog 134 = some (.nilfn) := by kernel_rfl
theorem tyagg134 : aggT Try.prog 134 = false := by kernel_rfl
theorem tyval134 (cs : List AV) : valAt Try.prog 134 cs = cs.head? := valAt_one (by kernel_rfl) tyagg134 cs
theorem tycells135 : Try.prog.cellsOf 135 = 1 := by kernel_rfl
theorem tybytes135 : Try.prog.bytesOf 135 = 8 := by kernel_rfl
theorem tyzero135 : zeroA Try.prog 135 = some (.nilfn) := by kernel_rfl
theorem tyagg135 : aggT Try.prog 135 = false := by kernel_rfl
theorem tyval135 (cs : List AV) : valAt Try.prog 135 cs = cs.head? := valAt_one (by kernel_rfl) tyagg135 cs
theorem tycells136 : Try.prog.cellsOf 136 = 2 := by kernel_rfl
theorem tybytes136 : Try.prog.bytesOf 136 = 24 := by kernel_rfl
theorem tyzero136 : zeroA Try.prog 136 = some (.agg [.str [], .int .i64 (0)]) := by kernel_rfl
theorem tyagg136 : aggT Try.prog 136 = true := by kernel_rfl
theorem tyval136 (cs : List AV) : valAt Try.prog 136 cs = if 2 ≤ cs.length then some (.agg (cs.take 2)) else none := by rw [valAt_agg tyagg136, tycells136]
theorem tyfa136_0 (a : AV) : fieldAddrA Try.prog 136 a 0 = addOff a 0 := fieldAddrA_at (k := 0) (by kernel_rfl) a
theorem tysp136_0 : structPlaces Try.prog 136 0 = some (0, 1) := by kernel_rfl
theorem tyfd136_0 (cs : List AV) : fieldA Try.prog 136 (.agg cs) 0 = valAt Try.prog 9 (cs.drop 0) := fieldA_at (by kernel_rfl) cs
theorem tyfa136_1 (a : AV) : fieldAddrA Try.prog 136 a 1 = addOff a 1 := fieldAddrA_at (k := 0) (by kernel_rfl) a
theorem tysp136_1 : structPlaces Try.prog 136 1 = some (1, 1) := by kernel_rfl
theorem tyfd136_1 (cs : List AV) : fieldA Try.prog 136 (.agg cs) 1 = valAt Try.prog 3 (cs.drop 1) := fieldA_at (by kernel_rfl) cs
theorem tycells137 : Try.prog.cellsOf 137 = 2 := by kernel_rfl
theorem tybytes137 : Try.prog.bytesOf 137 = 24 := by kernel_rfl
theorem tyzero137 : zeroA Try.prog 137 = some (.agg [.str [], .int .i64 (0)]) := by kernel_rfl
theorem tyagg137 : aggT Try.prog 137 = true := by kernel_rfl
theorem tyval137 (cs : List AV) : valAt Try.prog 137 cs = if 2 ≤ cs.length then some (.agg (cs.take 2)) else none := by rw [valAt_agg tyagg137, tycells137]
theorem tyfa137_0 (a : AV) : fieldAddrA Try.prog 137 a 0 = addOff a 0 := fieldAddrA_at (k := 0) (by kernel_rfl) a
theorem tysp137_0 : structPlaces Try.prog 137 0 = some (0, 1) := by kernel_rfl
theorem tyfd137_0 (cs : List AV) : fieldA Try.prog 137 (.agg cs) 0 = valAt Try.prog 9 (cs.drop 0) := fieldA_at (by kernel_rfl) cs
theorem tyfa137_1 (a : AV) : fieldAddrA Try.prog 137 a 1 = addOff a 1 := fieldAddrA_at (k := 0) (by kernel_rfl) a
theorem tysp137_1 : structPlaces Try.prog 137 1 = some (1, 1) := by kernel_rfl
theorem tyfd137_1 (cs : List AV) : fieldA Try.prog 137 (.agg cs) 1 = valAt Try.prog 3 (cs.drop 1) := fieldA_at (by kernel_rfl) cs
theorem tycells138 : Try.prog.cellsOf 138 = 58 := by kernel_rfl
theorem tybytes138 : Try.prog.bytesOf 138 = 696 := by kernel_rfl
theorem tyagg138 : aggT Try.prog 138 = true := by kernel_rfl
theorem tyval138 (cs : List AV) : valAt Try.prog 138 cs = if 58 ≤ cs.length then some (.agg (cs.take 58)) else none := by rw [valAt_agg tyagg138, tycells138]
theorem tycells139 : Try.prog.cellsOf 139 = 1 := by kernel_rfl
theorem tybytes139 : Try.prog.bytesOf 139 = 8 := by kernel_rfl
theorem tyzero139 : zeroA Try.prog 139 = some (.nilfn) := by kernel_rfl
theorem tyagg139 : aggT Try.prog 139 = false := by kernel_rfl
theorem tyval139 (cs : List AV) : valAt Try.prog 139 cs = cs.head? := valAt_one (by kernel_rfl) tyagg139 cs
theorem tycells140 : Try.prog.cellsOf 140 = 1 := by kernel_rfl
theorem tybytes140 : Try.prog.bytesOf 140 = 8 := by kernel_rfl
theorem tyzero140 : zeroA Try.prog 140 = some (.nilfn) := by kernel_rfl
theorem tyagg140 : aggT Try.prog 140 = false := by kernel_rfl
theorem tyval140 (cs : List AV) : valAt Try.prog 140 cs = cs.head? := valAt_one (by kernel_rfl) tyagg140 cs
theorem tycells141 : Try.prog.cellsOf 141 = 1 := by kernel_rfl
theorem tybytes141 : Try.prog.bytesOf 141 = 8 := by kernel_rfl
theorem tyzero141 : zeroA Try.prog 141 = some (.nilfn) := by kernel_rfl
theorem tyagg141 : aggT Try.prog 141 = false := by kernel_rfl
theorem tyval141 (cs : List AV) : valAt Try.prog 141 cs = cs.head? := valAt_one (by kernel_rfl) tyagg141 cs
theorem tycells142 : Try.prog.cellsOf 142 = 1 := by kernel_rfl
theorem tybytes142 : Try.prog.bytesOf 142 = 8 := by kernel_rfl
theorem tyzero142 : zeroA Try.prog 142 = some (.nilfn) := by kernel_rfl
theorem tyagg142 : aggT Try.prog 142 = false := by kernel_rfl
theorem tyval142 (cs : List AV) : valAt Try.prog 142 cs = cs.head? := valAt_one (by kernel_rfl) tyagg142 cs
theorem tycells143 : Try.prog.cellsOf 143 = 1 := by kernel_rfl
theorem tybytes143 : Try.prog.bytesOf 143 = 8 := by kernel_rfl
theorem tyzero143 : zeroA Try.prog 143 = some (.nilfn) := by kernel_rfl
theorem tyagg143 : aggT Try.prog 143 = false := by kernel_rfl
theorem tyval143 (cs : List AV) : valAt Try.prog 143 cs = cs.head? := valAt_one (by kernel_rfl) tyagg143 cs
theorem tycells144 : Try.prog.cellsOf 144 = 1 := by kernel_rfl
theorem tybytes144 : Try.prog.bytesOf 144 = 8 := by kernel_rfl
theorem tyzero144 : zeroA Try.prog 144 = some (.nilfn) := by kernel_rfl
theorem tyagg144 : aggT Try.prog 144 = false := by kernel_rfl
theorem tyval144 (cs : List AV) : valAt Try.prog 144 cs = cs.head? := valAt_one (by kernel_rfl) tyagg144 cs
theorem tycells145 : Try.prog.cellsOf 145 = 1 := by kernel_rfl
theorem tybytes145 : Try.prog.bytesOf 145 = 8 := by kernel_rfl
theorem tyzero145 : zeroA Try.prog 145 = some (.nilfn) := by kernel_rfl
theorem tyagg145 : aggT Try.prog 145 = false := by kernel_rfl
theorem tyval145 (cs : List AV) : valAt Try.prog 145 cs = cs.head? := valAt_one (by kernel_rfl) tyagg145 cs
theorem tycells146 : Try.prog.cellsOf 146 = 1 := by kernel_rfl
theorem tybytes146 : Try.prog.bytesOf 146 = 8 := by kernel_rfl
theorem tyzero146 : zeroA Try.prog 146 = some (.nilfn) := by kernel_rfl
theorem tyagg146 : aggT Try.prog 146 = false := by kernel_rfl
theorem tyval146 (cs : List AV) : valAt Try.prog 146 cs = cs.head? := valAt_one (by kernel_rfl) tyagg146 cs
theorem tycells147 : Try.prog.cellsOf 147 = 1 := by kernel_rfl
theorem tybytes147 : Try.prog.bytesOf 147 = 8 := by kernel_rfl
theorem tyzero147 : zeroA Try.prog 147 = some (.nilfn) := by kernel_rfl
theorem tyagg147 : aggT Try.prog 147 = false := by kernel_rfl
theorem tyval147 (cs : List AV) : valAt Try.prog 147 cs = cs.head? := valAt_one (by kernel_rfl) tyagg147 cs
theorem tycells148 : Try.prog.cellsOf 148 = 1 := by kernel_rfl
theorem tybytes148 : Try.prog.bytesOf 148 = 8 := by kernel_rfl
theorem tyzero148 : zeroA Try.prog 148 = some (.nilfn) := by kernel_rfl
theorem tyagg148 : aggT Try.prog 148 = false := by kernel_rfl
theorem tyval148 (cs : List AV) : valAt Try.prog 148 cs = cs.head? := valAt_one (by kernel_rfl) tyagg148 cs
theorem tycells149 : Try.prog.cellsOf 149 = 4 := by kernel_rfl
theorem tybytes149 : Try.prog.bytesOf 149 = 40 := by kernel_rfl
theorem tyzero149 : zeroA Try.prog 149 = some (.agg [.nilptr, .nilptr, .nilptr, .str []]) := by kernel_rfl
theorem tyagg149 : aggT Try.prog 149 = true := by kernel_rfl
theorem tyval149 (cs : List AV) : valAt Try.prog 149 cs = if 4 ≤ cs.length then some (.agg (cs.take 4)) else none := by rw [valAt_agg tyagg149, tycells149]
theorem tyfa149_0 (a : AV) : fieldAddrA Try.prog 149 a 0 = addOff a 0 := fieldAddrA_at (k := 0) (by kernel_rfl) a
theorem tysp149_0 : structPlaces Try.prog 149 0 = some (0, 1) := by kernel_rfl
theorem tyfd149_0 (cs : List AV) : fieldA Try.prog 149 (.agg cs) 0 = valAt Try.prog 17 (cs.drop 0) := fieldA_at (by kernel_rfl) cs
theorem tyfa149_1 (a : AV) : fieldAddrA Try.prog 149 a 1 = addOff a 1 := fieldAddrA_at (k := 0) (by kernel_rfl) a
theorem tysp149_1 : structPlaces Try.prog 149 1 = some (1, 1) := by kernel_rfl
theorem tyfd149_1 (cs : List AV) : fieldA Try.prog 149 (.agg cs) 1 = valAt Try.prog 17 (cs.drop 1) := fieldA_at (by kernel_rfl) cs
theorem tyfa149_2 (a : AV) : fieldAddrA Try.prog 149 a 2 = addOff a 2 := fieldAddrA_at (k := 0) (by kernel_rfl) a
theorem tysp149_2 : structPlaces Try.prog 149 2 = some (2, 1) := by kernel_rfl
theorem tyfd149_2 (cs : List AV) : fieldA Try.prog 149 (.agg cs) 2 = valAt Try.prog 17 (cs.drop 2) := fieldA_at (by kernel_rfl) cs
theorem tyfa149_3 (a : AV) : fieldAddrA Try.prog 149 a 3 = addOff a 3 := fieldAddrA_at (k := 0) (by kernel_rfl) a
theorem tysp149_3 : structPlaces Try.prog 149 3 = some (3, 1) := by kernel_rfl
theorem tyfd149_3 (cs : List AV) : fieldA Try.prog 149 (.agg cs) 3 = valAt Try.prog 9 (cs.drop 3) := fieldA_at (by kernel_rfl) cs
theorem tycells150 : Try.prog.cellsOf 150 = 4 := by kernel_rfl
theorem tybytes150 : Try.prog.bytesOf 150 = 40 := by kernel_rfl
theorem tyzero150 : zeroA Try.prog 150 = some (.agg [.nilptr, .nilptr, .nilptr, .str []]) := by kernel_rfl
theorem tyagg150 : aggT Try.prog 150 = true := by kernel_rfl
theorem tyval150 (cs : List AV) : valAt Try.prog 150 cs = if 4 ≤ cs.length then some (.agg (cs.take 4)) else none := by rw [valAt_agg tyagg150, tycells150]
theorem tyfa150_0 (a : AV) : fieldAddrA Try.prog 150 a 0 = addOff a 0 := fieldAddrA_at (k := 0) (by kernel_rfl) a
theorem tysp150_0 : structPlaces Try.prog 150 0 = some (0, 1) := by kernel_rfl
theorem tyfd150_0 (cs : List AV) : fieldA Try.prog 150 (.agg cs) 0 = valAt Try.prog 17 (cs.drop 0) := fieldA_at (by kernel_rfl) cs
theorem tyfa150_1 (a : AV) : fieldAddrA Try.prog 150 a 1 = addOff a 1 := fieldAddrA_at (k := 0) (by kernel_rfl) a
theorem tysp150_1 : structPlaces Try.prog 150 1 = some (1, 1) := by kernel_rfl
theorem tyfd150_1 (cs : List AV) : fieldA Try.prog 150 (.agg cs) 1 = valAt Try.prog 17 (cs.drop 1) := fieldA_at (by kernel_rfl) cs
theorem tyfa150_2 (a : AV) : fieldAddrA Try.prog 150 a 2 = addOff a 2 := fieldAddrA_at (k := 0) (by kernel_rfl) a
theorem tysp150_2 : structPlaces Try.prog 150 2 = some (2, 1) := by kernel_rfl
theorem tyfd150_2 (cs : List AV) : fieldA Try.prog 150 (.agg cs) 2 = valAt Try.prog 17 (cs.drop 2) := fieldA_at (by kernel_rfl) cs
theorem tyfa150_3 (a : AV) : fieldAddrA Try.prog 150 a 3 = addOff a 3 := fieldAddrA_at (k := 0) (by kernel_rfl) a
theorem tysp150_3 : structPlaces Try.prog 150 3 = some (3, 1) := by kernel_rfl
theorem tyfd150_3 (cs : List AV) : fieldA Try.prog 150 (.agg cs) 3 = valAt Try.prog 9 (cs.drop 3) := fieldA_at (by kernel_rfl) cs
theorem tycells151 : Try.prog.cellsOf 151 = 0 := by kernel_rfl
theorem tybytes151 : Try.prog.bytesOf 151 = 0 := by kernel_rfl
theorem tyzero151 : zeroA Try.prog 151 = some (.agg []) := by kernel_rfl
theorem tyagg151 : aggT Try.prog 151 = true := by kernel_rfl
theorem tyval151 (cs : List AV) : valAt Try.prog 151 cs = if 0 ≤ cs.length then some (.agg (cs.take 0)) else none := by rw [valAt_agg tyagg151, tycells151]
theorem tycells152 : Try.prog.cellsOf 152 = 0 := by kernel_rfl
theorem tybytes152 : Try.prog.bytesOf 152 = 0 := by kernel_rfl
theorem tyzero152 : zeroA Try.prog 152 = some (.agg []) := by kernel_rfl
theorem tyagg152 : aggT Try.prog 152 = true := by kernel_rfl
theorem tyval152 (cs : List AV) : valAt Try.prog 152 cs = if 0 ≤ cs.length then some (.agg (cs.take 0)) else none := by rw [valAt_agg tyagg152, tycells152]
theorem tysp152_0 : structPlaces Try.prog 152 0 = some (0, 0) := by kernel_rfl
theorem tyfd152_0 (cs : List AV) : fieldA Try.prog 152 (.agg cs) 0 = valAt Try.prog 151 (cs.drop 0) := fieldA_at (by kernel_rfl) cs
theorem tycells153 : Try.prog.cellsOf 153 = 0 := by kernel_rfl
theorem tybytes153 : Try.prog.bytesOf 153 = 0 := by kernel_rfl
theorem tyzero153 : zeroA Try.prog 153 = some (.agg []) := by kernel_rfl
theorem tyagg153 : aggT Try.prog 153 = true := by kernel_rfl
theorem tyval153 (cs : List AV) : valAt Try.prog 153 cs = if 0 ≤ cs.length then some (.agg (cs.take 0)) else none := by rw [valAt_agg tyagg153, tycells153]
theorem tysp153_0 : structPlaces Try.prog 153 0 = some (0, 0) := by kernel_rfl
theorem tyfd153_0 (cs : List AV) : fieldA Try.prog 153 (.agg cs) 0 = valAt Try.prog 151 (cs.drop 0) := fieldA_at (by kernel_rfl) cs
theorem tycells154 : Try.prog.cellsOf 154 = 1 := by kernel_rfl
theorem tybytes154 : Try.prog.bytesOf 154 = 1 := by kernel_rfl
theorem tyzero154 : zeroA Try.prog 154 = some (.int .u8 (0)) := by kernel_rfl
theorem tyagg154 : aggT Try.prog 154 = false := by kernel_rfl
theorem tyval154 (cs : List AV) : valAt Try.prog 154 cs = cs.head? := valAt_one (by kernel_rfl) tyagg154 cs
theorem tycells155 : Try.prog.cellsOf 155 = 1 := by kernel_rfl
theorem tybytes155 : Try.prog.bytesOf 155 = 1 := by kernel_rfl
theorem tyzero155 : zeroA Try.prog 155 = some (.int .u8 (0)) := by kernel_rfl
theorem tyagg155 : aggT Try.prog 155 = false := by kernel_rfl
theorem tyval155 (cs : List AV) : valAt Try.prog 155 cs = cs.head? := valAt_one (by kernel_rfl) tyagg155 cs
theorem tycells156 : Try.prog.cellsOf 156 = 1 := by kernel_rfl
theorem tybytes156 : Try.prog.bytesOf 156 = 8 := by kernel_rfl
theorem tyzero156 : zeroA Try.prog 156 = some (.nilfn) := by kernel_rfl
theorem tyagg156 : aggT Try.prog 156 = false := by kernel_rfl
theorem tyval156 (cs : List AV) : valAt Try.prog 156 cs = cs.head? := valAt_one (by kernel_rfl) tyagg156 cs
theorem tycells157 : Try.prog.cellsOf 157 = 1 := by kernel_rfl
theorem tybytes157 : Try.prog.bytesOf 157 = 8 := by kernel_rfl
theorem tyzero157 : zeroA Try.prog 157 = some (.nilptr) := by kernel_rfl
theorem tyagg157 : aggT Try.prog 157 = false := by kernel_rfl
theorem tyval157 (cs : List AV) : valAt Try.prog 157 cs = cs.head? := valAt_one (by kernel_rfl) tyagg157 cs
theorem tycells158 : Try.prog.cellsOf 158 = 1 := by kernel_rfl
theorem tybytes158 : Try.prog.bytesOf 158 = 4 := by kernel_rfl
theorem tyzero158 : zeroA Try.prog 158 = some (.int .i32 (0)) := by kernel_rfl
theorem tyagg158 : aggT Try.prog 158 = false := by kernel_rfl
theorem tyval158 (cs : List AV) : valAt Try.prog 158 cs = cs.head? := valAt_one (by kernel_rfl) tyagg158 cs
theorem tycells159 : Try.prog.cellsOf 159 = 1 := by kernel_rfl
theorem tybytes159 : Try.prog.bytesOf 159 = 4 := by kernel_rfl
theorem tyzero159 : zeroA Try.prog 159 = some (.int .i32 (0)) := by kernel_rfl
theorem tyagg159 : aggT Try.prog 159 = false := by kernel_rfl
theorem tyval159 (cs : List AV) : valAt Try.prog 159 cs = cs.head? := valAt_one (by kernel_rfl) tyagg159 cs
theorem tycells160 : Try.prog.cellsOf 160 = 11 := by kernel_rfl
theorem tybytes160 : Try.prog.bytesOf 160 = 48 := by kernel_rfl
theorem tyzero160 : zeroA Try.prog 160 = some (.agg [.int .u64 (0), .int .u64 (0), .int .u32 (0), .int .u8 (0), .int .u8 (0), .int .u8 (0), .int .u8 (0), .nilfn, .nilptr, .int .i32 (0), .int .i32 (0)]) := by kernel_rfl
theorem tyagg160 : aggT Try.prog 160 = true := by kernel_rfl
theorem tyval160 (cs : List AV) : valAt Try.prog 160 cs = if 11 ≤ cs.length then some (.agg (cs.take 11)) else none := by rw [valAt_agg tyagg160, tycells160]
theorem tyfa160_0 (a : AV) : fieldAddrA Try.prog 160 a 0 = addOff a 0 := fieldAddrA_at (k := 0) (by kernel_rfl) a
theorem tysp160_0 : structPlaces Try.prog 160 0 = some (0, 1) := by kernel_rfl
theorem tyfd160_0 (cs : List AV) : fieldA Try.prog 160 (.agg cs) 0 = valAt Try.prog 12 (cs.drop 0) := fieldA_at (by kernel_rfl) cs
theorem tyfa160_1 (a : AV) : fieldAddrA Try.prog 160 a 1 = addOff a 1 := fieldAddrA_at (k := 0) (by kernel_rfl) a
theorem tysp160_1 : structPlaces Try.prog 160 1 = some (1, 1) := by kernel_rfl
theorem tyfd160_1 (cs : List AV) : fieldA Try.prog 160 (.agg cs) 1 = valAt Try.prog 12 (cs.drop 1) := fieldA_at (by kernel_rfl) cs
theorem tyfa160_2 (a : AV) : fieldAddrA Try.prog 160 a 2 = addOff a 2 := fieldAddrA_at (k := 0) (by kernel_rfl) a
theorem tysp160_2 : structPlaces Try.prog 160 2 = some (2, 1) := by kernel_rfl
theorem tyfd160_2 (cs : List AV) : fieldA Try.prog 160 (.agg cs) 2 = valAt Try.prog 99 (cs.drop 2) := fieldA_at (by kernel_rfl) cs
theorem tyfa160_3 (a : AV) : fieldAddrA Try.prog 160 a 3 = addOff a 3 := fieldAddrA_at (k := 0) (by kernel_rfl) a
theorem tysp160_3 : structPlaces Try.prog 160 3 = some (3, 1) := by kernel_rfl
theorem tyfd160_3 (cs : List AV) : fieldA Try.prog 160 (.agg cs) 3 = valAt Try.prog 154 (cs.drop 3) := fieldA_at (by kernel_rfl) cs
theorem tyfa160_4 (a : AV) : fieldAddrA Try.prog 160 a 4 = addOff a 4 := fieldAddrA_at (k := 0) (by kernel_rfl) a
theorem tysp160_4 : structPlaces Try.prog 160 4 = some (4, 1) := by kernel_rfl
theorem tyfd160_4 (cs : List AV) : fieldA Try.prog 160 (.agg cs) 4 = valAt Try.prog 5 (cs.drop 4) := fieldA_at (by kernel_rfl) cs
theorem tyfa160_5 (a : AV) : fieldAddrA Try.prog 160 a 5 = addOff a 5 := fieldAddrA_at (k := 0) (by kernel_rfl) a
theorem tysp160_5 : structPlaces Try.prog 160 5 = some (5, 1) := by kernel_rfl
theorem tyfd160_5 (cs : List AV) : fieldA Try.prog 160 (.agg cs) 5 = valAt Try.prog 5 (cs.drop 5) := fieldA_at (by kernel_rfl) cs
theorem tyfa160_6 (a : AV) : fieldAddrA Try.prog 160 a 6 = addOff a 6 := fieldAddrA_at (k := 0) (by kernel_rfl) a
theorem tysp160_6 : structPlaces Try.prog 160 6 = some (6, 1) := by kernel_rfl
theorem tyfd160_6 (cs : List AV) : fieldA Try.prog 160 (.agg cs) 6 = valAt Try.prog 155 (cs.drop 6) := fieldA_at (by kernel_rfl) cs
theorem tyfa160_7 (a : AV) : fieldAddrA Try.prog 160 a 7 = addOff a 7 := fieldAddrA_at (k := 0) (by kernel_rfl) a
theorem tysp160_7 : structPlaces Try.prog 160 7 = some (7, 1) := by kernel_rfl
theorem tyfd160_7 (cs : List AV) : fieldA Try.prog 160 (.agg cs) 7 = valAt Try.prog 156 (cs.drop 7) := fieldA_at (by kernel_rfl) cs
theorem tyfa160_8 (a : AV) : fieldAddrA Try.prog 160 a 8 = addOff a 8 := fieldAddrA_at (k := 0) (by kernel_rfl) a
theorem tysp160_8 : structPlaces Try.prog 160 8 = some (8, 1) := by kernel_rfl
theorem tyfd160_8 (cs : List AV) : fieldA Try.prog 160 (.agg cs) 8 = valAt Try.prog 157 (cs.drop 8) := fieldA_at (by kernel_rfl) cs
theorem tyfa160_9 (a : AV) : fieldAddrA Try.prog 160 a 9 = addOff a 9 := fieldAddrA_at (k := 0) (by kernel_rfl) a
theorem tysp160_9 : structPlaces Try.prog 160 9 = some (9, 1) := by kernel_rfl
theorem tyfd160_9 (cs : List AV) : fieldA Try.prog 160 (.agg cs) 9 = valAt Try.prog 158 (cs.drop 9) := fieldA_at (by kernel_rfl) cs
theorem tyfa160_10 (a : AV) : fieldAddrA Try.prog 160 a 10 = addOff a 10 := fieldAddrA_at (k := 0) (by kernel_rfl) a
theorem tysp160_10 : structPlaces Try.prog 160 10 = some (10, 1) := by kernel_rfl
theorem tyfd160_10 (cs : List AV) : fieldA Try.prog 160 (.agg cs) 10 = valAt Try.prog 159 (cs.drop 10) := fieldA_at (by kernel_rfl) cs
theorem tycells161 : Try.prog.cellsOf 161 = 11 := by kernel_rfl
theorem tybytes161 : Try.prog.bytesOf 161 = 48 := by kernel_rfl
theorem tyzero161 : zeroA Try.prog 161 = some (.agg [.int .u64 (0), .int .u64 (0), .int .u32 (0), .int .u8 (0), .int .u8 (0), .int .u8 (0), .int .u8 (0), .nilfn, .nilptr, .int .i32 (0), .int .i32 (0)]) := by kernel_rfl
theorem tyagg161 : aggT Try.prog 161 = true := by kernel_rfl
theorem tyval161 (cs : List AV) : valAt Try.prog 161 cs = if 11 ≤ cs.length then some (.agg (cs.take 11)) else none := by rw [valAt_agg tyagg161, tycells161]
theorem tyfa161_0 (a : AV) : fieldAddrA Try.prog 161 a 0 = addOff a 0 := fieldAddrA_at (k := 0) (by kernel_rfl) a
theorem tysp161_0 : structPlaces Try.prog 161 0 = some (0, 1) := by kernel_rfl
theorem tyfd161_0 (cs : List AV) : fieldA Try.prog 161 (.agg cs) 0 = valAt Try.prog 12 (cs.drop 0) := fieldA_at (by kernel_rfl) cs
theorem tyfa161_1 (a : AV) : fieldAddrA Try.prog 161 a 1 = addOff a 1 := fieldAddrA_at (k := 0) (by kernel_rfl) a
theorem tysp161_1 : structPlaces Try.prog 161 1 = some (1, 1) := by kernel_rfl
theorem tyfd161_1 (cs : List AV) : fieldA Try.prog 161 (.agg cs) 1 = valAt Try.prog 12 (cs.drop 1) := fieldA_at (by kernel_rfl) cs
theorem tyfa161_2 (a : AV) : fieldAddrA Try.prog 161 a 2 = addOff a 2 := fieldAddrA_at (k := 0) (by kernel_rfl) a
theorem tysp161_2 : structPlaces Try.prog 161 2 = some (2, 1) := by kernel_rfl
theorem tyfd161_2 (cs : List AV) : fieldA Try.prog 161 (.agg cs) 2 = valAt Try.prog 99 (cs.drop 2) := fieldA_at (by kernel_rfl) cs
theorem tyfa161_3 (a : AV) : fieldAddrA Try.prog 161 a 3 = addOff a 3 := fieldAddrA_at (k := 0) (by kernel_rfl) a
theorem tysp161_3 : structPlaces Try.prog 161 3 = some (3, 1) := by kernel_rfl
theorem tyfd161_3 (cs : List AV) : fieldA Try.prog 161 (.agg cs) 3 = valAt Try.prog 154 (cs.drop 3) := fieldA_at (by kernel_rfl) cs
theorem tyfa161_4 (a : AV) : fieldAddrA Try.prog 161 a 4 = addOff a 4 := fieldAddrA_at (k := 0) (by kernel_rfl) a
theorem tysp161_4 : structPlaces Try.prog 161 4 = some (4, 1) := by kernel_rfl
theorem tyfd161_4 (cs : List AV) : fieldA Try.prog 161 (.agg cs) 4 = valAt Try.prog 5 (cs.drop 4) := fieldA_at (by kernel_rfl) cs
theorem tyfa161_5 (a : AV) : fieldAddrA Try.prog 161 a 5 = addOff a 5 := fieldAddrA_at (k := 0) (by kernel_rfl) a
theorem tysp161_5 : structPlaces Try.prog 161 5 = some (5, 1) := by kernel_rfl
theorem tyfd161_5 (cs : List AV) : fieldA Try.prog 161 (.agg cs) 5 = valAt Try.prog 5 (cs.drop 5) := fieldA_at (by kernel_rfl) cs
theorem tyfa161_6 (a : AV) : fieldAddrA Try.prog 161 a 6 = addOff a 6 := fieldAddrA_at (k := 0) (by kernel_rfl) a
theorem tysp161_6 : structPlaces Try.prog 161 6 = some (6, 1) := by kernel_rfl
theorem tyfd161_6 (cs : List AV) : fieldA Try.prog 161 (.agg cs) 6 = valAt Try.prog 155 (cs.drop 6) := fieldA_at (by kernel_rfl) cs
theorem tyfa161_7 (a : AV) : fieldAddrA Try.prog 161 a 7 = addOff a 7 := fieldAddrA_at (k := 0) (by kernel_rfl) a
theorem tysp161_7 : structPlaces Try.prog 161 7 = some (7, 1) := by kernel_rfl
theorem tyfd161_7 (cs : List AV) : fieldA Try.prog 161 (.agg cs) 7 = valAt Try.prog 156 (cs.drop 7) := fieldA_at (by kernel_rfl) cs
theorem tyfa161_8 (a : AV) : fieldAddrA Try.prog 161 a 8 = addOff a 8 := fieldAddrA_at (k := 0) (by kernel_rfl) a
theorem tysp161_8 : structPlaces Try.prog 161 8 = some (8, 1) := by kernel_rfl
theorem tyfd161_8 (cs : List AV) : fieldA Try.prog 161 (.agg cs) 8 = valAt Try.prog 157 (cs.drop 8) := fieldA_at (by kernel_rfl) cs
theorem tyfa161_9 (a : AV) : fieldAddrA Try.prog 161 a 9 = addOff a 9 := fieldAddrA_at (k := 0) (by kernel_rfl) a
theorem tysp161_9 : structPlaces Try.prog 161 9 = some (9, 1) := by kernel_rfl
theorem tyfd161_9 (cs : List AV) : fieldA Try.prog 161 (.agg cs) 9 = valAt Try.prog 158 (cs.drop 9) := fieldA_at (by kernel_rfl) cs
theorem tyfa161_10 (a : AV) : fieldAddrA Try.prog 161 a 10 = addOff a 10 := fieldAddrA_at (k := 0) (by kernel_rfl) a
theorem tysp161_10 : structPlaces Try.prog 161 10 = some (10, 1) := by kernel_rfl
theorem tyfd161_10 (cs : List AV) : fieldA Try.prog 161 (.agg cs) 10 = valAt Try.prog 159 (cs.drop 10) := fieldA_at (by kernel_rfl) cs
theorem tycells162 : Try.prog.cellsOf 162 = 1 := by kernel_rfl
theorem tybytes162 : Try.prog.bytesOf 162 = 8 := by kernel_rfl
theorem tyzero162 : zeroA Try.prog 162 = some (.nilptr) := by kernel_rfl
theorem tyagg162 : aggT Try.prog 162 = false := by kernel_rfl
theorem tyval162 (cs : List AV) : valAt Try.prog 162 cs = cs.head? := valAt_one (by kernel_rfl) tyagg162 cs
attribute [simp] tycells0 tybytes0 tyval0 tyagg0 tycells1 tybytes1 tyzero1 tyval1 tyagg1 tycells2 tybytes2 tyzero2
attribute [simp] tyval2 tyagg2 tycells3 tybytes3 tyzero3 tyval3 tyagg3 tycells4 tybytes4 tyzero4 tyval4 tyagg4
attribute [simp] tycells5 tybytes5 tyzero5 tyval5 tyagg5 tycells6 tybytes6 tyzero6 tyval6 tyagg6 tycells7 tybytes7
attribute [simp] tyzero7 tyval7 tyagg7 tyfa7_0 tyfd7_0 tysp7_0 tyfa7_1 tyfd7_1 tysp7_1 tyfa7_2 tyfd7_2 tysp7_2
attribute [simp] tyfa7_3 tyfd7_3 tysp7_3 tycells8 tybytes8 tyzero8 tyval8 tyagg8 tyfa8_0 tyfd8_0 tysp8_0 tyfa8_1
attribute [simp] tyfd8_1 tysp8_1 tyfa8_2 tyfd8_2 tysp8_2 tyfa8_3 tyfd8_3 tysp8_3 tycells9 tybytes9 tyzero9 tyval9
attribute [simp] tyagg9 tycells10 tybytes10 tyzero10 tyval10 tyagg10 tycells11 tybytes11 tyzero11 tyval11 tyagg11 tycells12
attribute [simp] tybytes12 tyzero12 tyval12 tyagg12 tycells13 tybytes13 tyzero13 tyval13 tyagg13 tyfa13_0 tyfd13_0 tysp13_0
attribute [simp] tyfa13_1 tyfd13_1 tysp13_1 tycells14 tybytes14 tyzero14 tyval14 tyagg14 tyfa14_0 tyfd14_0 tysp14_0 tyfa14_1
attribute [simp] tyfd14_1 tysp14_1 tycells15 tybytes15 tyzero15 tyval15 tyagg15 tycells16 tybytes16 tyzero16 tyval16 tyagg16
attribute [simp] tycells17 tybytes17 tyzero17 tyval17 tyagg17 tycells18 tybytes18 tyzero18 tyval18 tyagg18 tyfa18_0 tyfd18_0
attribute [simp] tysp18_0 tycells19 tybytes19 tyzero19 tyval19 tyagg19 tyfa19_0 tyfd19_0 tysp19_0 tycells20 tybytes20 tyzero20
attribute [simp] tyval20 tyagg20 tycells21 tybytes21 tyzero21 tyval21 tyagg21 tycells22 tybytes22 tyzero22 tyval22 tyagg22
attribute [simp] tycells23 tybytes23 tyzero23 tyval23 tyagg23 tycells24 tybytes24 tyzero24 tyval24 tyagg24 tyfa24_0 tyfd24_0
attribute [simp] tysp24_0 tyfa24_1 tyfd24_1 tysp24_1 tycells25 tybytes25 tyzero25 tyval25 tyagg25 tyfa25_0 tyfd25_0 tysp25_0
attribute [simp] tyfa25_1 tyfd25_1 tysp25_1 tycells26 tybytes26 tyzero26 tyval26 tyagg26 tycells27 tybytes27 tyzero27 tyval27
attribute [simp] tyagg27 tycells28 tybytes28 tyzero28 tyval28 tyagg28 tycells29 tybytes29 tyzero29 tyval29 tyagg29 tycells30
attribute [simp] tybytes30 tyval30 tyagg30 tycells31 tybytes31 tyzero31 tyval31 tyagg31 tycells32 tybytes32 tyzero32 tyval32
attribute [simp] tyagg32 tycells33 tybytes33 tyval33 tyagg33 tycells34 tybytes34 tyzero34 tyval34 tyagg34 tycells35 tybytes35
attribute [simp] tyzero35 tyval35 tyagg35 tycells36 tybytes36 tyzero36 tyval36 tyagg36 tycells37 tybytes37 tyzero37 tyval37
attribute [simp] tyagg37 tycells38 tybytes38 tyval38 tyagg38 tycells39 tybytes39 tyzero39 tyval39 tyagg39 tycells40 tybytes40
attribute [simp] tyzero40 tyval40 tyagg40 tyfa40_0 tyfd40_0 tysp40_0 tyfa40_1 tyfd40_1 tysp40_1 tycells41 tybytes41 tyzero41
attribute [simp] tyval41 tyagg41 tyfa41_0 tyfd41_0 tysp41_0 tyfa41_1 tyfd41_1 tysp41_1 tycells42 tybytes42 tyval42 tyagg42
attribute [simp] tycells43 tybytes43 tyzero43 tyval43 tyagg43 tycells44 tybytes44 tyzero44 tyval44 tyagg44 tyfa44_0 tyfd44_0
attribute [simp] tysp44_0 tyfa44_1 tyfd44_1 tysp44_1 tycells45 tybytes45 tyzero45 tyval45 tyagg45 tyfa45_0 tyfd45_0 tysp45_0
attribute [simp] tyfa45_1 tyfd45_1 tysp45_1 tycells46 tybytes46 tyzero46 tyval46 tyagg46 tycells47 tybytes47 tyzero47 tyval47
attribute [simp] tyagg47 tycells48 tybytes48 tyzero48 tyval48 tyagg48 tycells49 tybytes49 tyzero49 tyval49 tyagg49 tycells50
attribute [simp] tybytes50 tyzero50 tyval50 tyagg50 tycells51 tybytes51 tyzero51 tyval51 tyagg51 tycells52 tybytes52 tyzero52
attribute [simp] tyval52 tyagg52 tycells53 tybytes53 tyzero53 tyval53 tyagg53 tycells54 tybytes54 tyval54 tyagg54 tycells55
attribute [simp] tybytes55 tyzero55 tyval55 tyagg55 tycells56 tybytes56 tyzero56 tyval56 tyagg56 tycells57 tybytes57 tyzero57
attribute [simp] tyval57 tyagg57 tycells58 tybytes58 tyzero58 tyval58 tyagg58 tycells59 tybytes59 tyzero59 tyval59 tyagg59
attribute [simp] tycells60 tybytes60 tyval60 tyagg60 tycells61 tybytes61 tyzero61 tyval61 tyagg61 tycells62 tybytes62 tyzero62
attribute [simp] tyval62 tyagg62 tycells63 tybytes63 tyzero63 tyval63 tyagg63 tyfa63_0 tyfd63_0 tysp63_0 tyfa63_1 tyfd63_1
attribute [simp] tysp63_1 tycells64 tybytes64 tyzero64 tyval64 tyagg64 tyfa64_0 tyfd64_0 tysp64_0 tyfa64_1 tyfd64_1 tysp64_1
attribute [simp] tycells65 tybytes65 tyzero65 tyval65 tyagg65 tycells66 tybytes66 tyzero66 tyval66 tyagg66 tycells67 tybytes67
attribute [simp] tyzero67 tyval67 tyagg67 tycells68 tybytes68 tyzero68 tyval68 tyagg68 tycells69 tybytes69 tyzero69 tyval69
attribute [simp] tyagg69 tycells70 tybytes70 tyzero70 tyval70 tyagg70 tyfa70_0 tyfd70_0 tysp70_0 tycells71 tybytes71 tyzero71
attribute [simp] tyval71 tyagg71 tyfa71_0 tyfd71_0 tysp71_0 tycells72 tybytes72 tyzero72 tyval72 tyagg72 tyfa72_0 tyfd72_0
attribute [simp] tysp72_0 tycells73 tybytes73 tyzero73 tyval73 tyagg73 tyfa73_0 tyfd73_0 tysp73_0 tycells74 tybytes74 tyzero74
attribute [simp] tyval74 tyagg74 tycells75 tybytes75 tyzero75 tyval75 tyagg75 tycells76 tybytes76 tyzero76 tyval76 tyagg76
attribute [simp] tycells77 tybytes77 tyzero77 tyval77 tyagg77 tycells78 tybytes78 tyzero78 tyval78 tyagg78 tycells79 tybytes79
attribute [simp] tyzero79 tyval79 tyagg79 tyfa79_0 tyfd79_0 tysp79_0 tycells80 tybytes80 tyzero80 tyval80 tyagg80 tycells81
attribute [simp] tybytes81 tyzero81 tyval81 tyagg81 tycells82 tybytes82 tyzero82 tyval82 tyagg82 tycells83 tybytes83 tyzero83
attribute [simp] tyval83 tyagg83 tycells84 tybytes84 tyzero84 tyval84 tyagg84 tycells85 tybytes85 tyzero85 tyval85 tyagg85
attribute [simp] tycells86 tybytes86 tyzero86 tyval86 tyagg86 tycells87 tybytes87 tyzero87 tyval87 tyagg87 tycells88 tybytes88
attribute [simp] tyzero88 tyval88 tyagg88 tycells89 tybytes89 tyzero89 tyval89 tyagg89 tycells90 tybytes90 tyzero90 tyval90
attribute [simp] tyagg90 tycells91 tybytes91 tyzero91 tyval91 tyagg91 tycells92 tybytes92 tyzero92 tyval92 tyagg92 tycells93
attribute [simp] tybytes93 tyzero93 tyval93 tyagg93 tycells94 tybytes94 tyval94 tyagg94 tycells95 tybytes95 tyzero95 tyval95
attribute [simp] tyagg95 tycells96 tybytes96 tyzero96 tyval96 tyagg96 tycells97 tybytes97 tyzero97 tyval97 tyagg97 tycells98
attribute [simp] tybytes98 tyzero98 tyval98 tyagg98 tycells99 tybytes99 tyzero99 tyval99 tyagg99 tycells100 tybytes100 tyzero100
attribute [simp] tyval100 tyagg100 tycells101 tybytes101 tyzero101 tyval101 tyagg101 tycells102 tybytes102 tyzero102 tyval102 tyagg102
attribute [simp] tycells103 tybytes103 tyzero103 tyval103 tyagg103 tycells104 tybytes104 tyzero104 tyval104 tyagg104 tycells105 tybytes105
attribute [simp] tyzero105 tyval105 tyagg105 tycells106 tybytes106 tyzero106 tyval106 tyagg106 tycells107 tybytes107 tyzero107 tyval107
attribute [simp] tyagg107 tycells108 tybytes108 tyzero108 tyval108 tyagg108 tycells109 tybytes109 tyzero109 tyval109 tyagg109 tycells110
attribute [simp] tybytes110 tyzero110 tyval110 tyagg110 tycells111 tybytes111 tyzero111 tyval111 tyagg111 tycells112 tybytes112 tyzero112
attribute [simp] tyval112 tyagg112 tycells113 tybytes113 tyzero113 tyval113 tyagg113 tycells114 tybytes114 tyzero114 tyval114 tyagg114
attribute [simp] tycells115 tybytes115 tyzero115 tyval115 tyagg115 tycells116 tybytes116 tyzero116 tyval116 tyagg116 tycells117 tybytes117
attribute [simp] tyzero117 tyval117 tyagg117 tycells118 tybytes118 tyzero118 tyval118 tyagg118 tycells119 tybytes119 tyzero119 tyval119
attribute [simp] tyagg119 tycells120 tybytes120 tyzero120 tyval120 tyagg120 tycells121 tybytes121 tyzero121 tyval121 tyagg121 tycells122
attribute [simp] tybytes122 tyzero122 tyval122 tyagg122 tycells123 tybytes123 tyzero123 tyval123 tyagg123 tycells124 tybytes124 tyzero124
attribute [simp] tyval124 tyagg124 tycells125 tybytes125 tyval125 tyagg125 tycells126 tybytes126 tyzero126 tyval126 tyagg126 tycells127
attribute [simp] tybytes127 tyzero127 tyval127 tyagg127 tycells128 tybytes128 tyzero128 tyval128 tyagg128 tycells129 tybytes129 tyzero129
attribute [simp] tyval129 tyagg129 tycells130 tybytes130 tyzero130 tyval130 tyagg130 tycells131 tybytes131 tyzero131 tyval131 tyagg131
attribute [simp] tycells132 tybytes132 tyzero132 tyval132 tyagg132 tycells133 tybytes133 tyzero133 tyval133 tyagg133 tycells134 tybytes134
attribute [simp] tyzero134 tyval134 tyagg134 tycells135 tybytes135 tyzero135 tyval135 tyagg135 tycells136 tybytes136 tyzero136 tyval136
attribute [simp] tyagg136 tyfa136_0 tyfd136_0 tysp136_0 tyfa136_1 tyfd136_1 tysp136_1 tycells137 tybytes137 tyzero137 tyval137 tyagg137
attribute [simp] tyfa137_0 tyfd137_0 tysp137_0 tyfa137_1 tyfd137_1 tysp137_1 tycells138 tybytes138 tyval138 tyagg138 tycells139 tybytes139
attribute [simp] tyzero139 tyval139 tyagg139 tycells140 tybytes140 tyzero140 tyval140 tyagg140 tycells141 tybytes141 tyzero141 tyval141
attribute [simp] tyagg141 tycells142 tybytes142 tyzero142 tyval142 tyagg142 tycells143 tybytes143 tyzero143 tyval143 tyagg143 tycells144
attribute [simp] tybytes144 tyzero144 tyval144 tyagg144 tycells145 tybytes145 tyzero145 tyval145 tyagg145 tycells146 tybytes146 tyzero146
attribute [simp] tyval146 tyagg146 tycells147 tybytes147 tyzero147 tyval147 tyagg147 tycells148 tybytes148 tyzero148 tyval148 tyagg148
attribute [simp] tycells149 tybytes149 tyzero149 tyval149 tyagg149 tyfa149_0 tyfd149_0 tysp149_0 tyfa149_1 tyfd149_1 tysp149_1 tyfa149_2
attribute [simp] tyfd149_2 tysp149_2 tyfa149_3 tyfd149_3 tysp149_3 tycells150 tybytes150 tyzero150 tyval150 tyagg150 tyfa150_0 tyfd150_0
attribute [simp] tysp150_0 tyfa150_1 tyfd150_1 tysp150_1 tyfa150_2 tyfd150_2 tysp150_2 tyfa150_3 tyfd150_3 tysp150_3 tycells151 tybytes151
attribute [simp] tyzero151 tyval151 tyagg151 tycells152 tybytes152 tyzero152 tyval152 tyagg152 tyfd152_0 tysp152_0 tycells153 tybytes153
attribute [simp] tyzero153 tyval153 tyagg153 tyfd153_0 tysp153_0 tycells154 tybytes154 tyzero154 tyval154 tyagg154 tycells155 tybytes155
attribute [simp] tyzero155 tyval155 tyagg155 tycells156 tybytes156 tyzero156 tyval156 tyagg156 tycells157 tybytes157 tyzero157 tyval157
attribute [simp] tyagg157 tycells158 tybytes158 tyzero158 tyval158 tyagg158 tycells159 tybytes159 tyzero159 tyval159 tyagg159 tycells160
attribute [simp] tybytes160 tyzero160 tyval160 tyagg160 tyfa160_0 tyfd160_0 tysp160_0 tyfa160_1 tyfd160_1 tysp160_1 tyfa160_2 tyfd160_2
attribute [simp] tysp160_2 tyfa160_3 tyfd160_3 tysp160_3 tyfa160_4 tyfd160_4 tysp160_4 tyfa160_5 tyfd160_5 tysp160_5 tyfa160_6 tyfd160_6
attribute [simp] tysp160_6 tyfa160_7 tyfd160_7 tysp160_7 tyfa160_8 tyfd160_8 tysp160_8 tyfa160_9 tyfd160_9 tysp160_9 tyfa160_10 tyfd160_10
attribute [simp] tysp160_10 tycells161 tybytes161 tyzero161 tyval161 tyagg161 tyfa161_0 tyfd161_0 tysp161_0 tyfa161_1 tyfd161_1 tysp161_1
attribute [simp] tyfa161_2 tyfd161_2 tysp161_2 tyfa161_3 tyfd161_3 tysp161_3 tyfa161_4 tyfd161_4 tysp161_4 tyfa161_5 tyfd161_5 tysp161_5
attribute [simp] tyfa161_6 tyfd161_6 tysp161_6 tyfa161_7 tyfd161_7 tysp161_7 tyfa161_8 tyfd161_8 tysp161_8 tyfa161_9 tyfd161_9 tysp161_9
attribute [simp] tyfa161_10 tyfd161_10 tysp161_10 tycells162 tybytes162 tyzero162 tyval162 tyagg162
def ptakes : Nat → List Nat := fun f => match f with
 | 3 => [56]
 | 10 => [92, 69, 41]
 | 12 => [83, 60]
 | 16 => [14]
 | 24 => [56, 29]
 | 26 => [81, 67, 49, 32]
 | 33 => [36, 19]
 | 44 => [31]
 | 47 => [31]
 | 56 => [15, 6]
 | 70 => [17]
 | 74 => [17]
 | 100 => [8]
 | 102 => [8]
 | _ => []
def plocs : Nat → List Nat := fun f => match f with
 | 3 => [3, 10]
 | 4 => [2, 3, 5, 7, 9, 12]
 | 5 => [2]
 | 6 => [3, 4, 7, 9, 11, 13, 15, 17]
 | 7 => [1, 7]
 | 8 => [1]
 | 9 => [3, 5, 7, 9]
 | 10 => [1, 9]
 | 12 => [7, 8]
 | 13 => [2, 3]
 | 14 => [2, 3]
 | 15 => [2, 3, 4, 10]
 | 16 => [1]
 | 17 => [1]
 | 18 => [1, 5, 7]
 | 19 => [1]
 | 20 => [1]
 | 21 => [1, 2, 4]
 | 22 => [1, 2, 4]
 | 23 => [2]
 | 24 => [2, 4, 6]
 | 25 => [2, 3]
 | 26 => [1, 7, 9]
 | 27 => [1]
 | 28 => [2, 3]
 | 29 => [0]
 | 41 => [1]
 | 45 => [2, 3]
 | 48 => [2, 3]
 | 49 => [1, 2]
 | 51 => [2, 3]
 | 53 => [4]
 | 60 => [8, 9]
 | 61 => [2, 3]
 | 65 => [2]
 | 66 => [3]
 | 87 => [6]
 | 90 => [4]
 | 94 => [4]
 | 99 => [0]
 | 100 => [5]
 | 102 => [5]
 | _ => []
def pkeeps : Nat → Option (List Bool) := fun f => match f with
 | 4 => some [false, false, true, true, false, false, false, false, false, true, false, true, false, false, false, false, false, false, false, false, false, false, false, false, false, false, false, false, false, false, false, false, false, false, false, false, false, false, false, false, false, false, false, false, false, false, false, false, false, false, false, false, false, false, false, false, false, false, false, false, false, false, false, false, false, false, false, false, false, false, false, false, false, false, false, false, false, false, false, false, false, false, false, false, false, false, false, false, false, false, false, false, false, false, false, false, false, false, false, false, false, false, false, false, false, false, false]
 | 5 => some [false, false, false, true, true, true, true, true, true, false, false, false, false, false, false, false, false, false, false, false, false, false, false, false, false, false, false, false, false, false, false, false, false, false, false, false, false, false, false, false, false, false, false, false, false, false, false, false, false, false, false, false, false, false, false, false, false, false, false, false, false, false, false, false, false, false, false, false, false, false, false, false, false, false, false, false, false, false, false, false, false, false, false, false, false, false, false]
 | 8 => some [false, true, false, true, true, true, false, false, false, false, false, false, false, false, false, false, false, false, false, false, false, false, false, false, false, false, false, false, false, false, false, false, false, false, false, false, false, false, false, false, false, false, false, false, false, false, false, false, false, false, false, false, false, false, false, false, false, false, false, false]
 | 10 => some [false, false, true, true, true, true, false, false, false, false, false, false, false, false, false, false, false, false, false, false, false, false, false, false, false, false, false, false, false, false, false, false, false, false, false, false, false, false, false, false, false, false, false, false, false, false, false, false, false, false, false, false, false, false, false, false, false, false, true, true, true, false, false, false, false, false, false, false, false, false, false, false, false, false, false, false, false, false, false, false, false, false, false, false, false, false, false, false, false, false, false, false, false, false, false, false, false, false, false, false]
 | 12 => some [false, false, true, true, false, true, true, false, false, false, false, false, false, false, false, false, false, false, false, false, false, false, false, false, false, false, false, false, false, false, false, false, false, false, false, false, false, false, false, false, false, false, false, true, true, false, false, false, false, false, false, false, false, false, false, false, false, false, false, false, false, false, false, false, false, false, false, true, true, false, false, false, false, false, false, false, false, false, false, false, false, false, false, false, false, false, false, false, false, false, false, false, false, false, false, false, false, false, false, false]
 | 13 => some [false, false, true, true, false, true, true, false, false, false, false, false, false, false, false, false, false, false, false, false, false, false, false, false, false, false, false, false, false, false, false, false, false, false, false, false, false, false, false, false, false, false, false, false, false, false, false, false, false, false, false, false, false, false, false, false, false, false, false, false, false, false, false, false, false, false, false, false, false, false, false, false, false, false, false, false, false, false]
 | 14 => some [false, false, false, false, true, true, true, true, false, false, false, false, false, false, false, false, false, false, false, false, false, false, false, false, false, false, false, false, false, false, false, false, false, false, false, false, false, false, false, false, false, false, false, false, false, false, false, false, false, false, false, false, false, false, false, false, false, false, false, false, false, false, false, false, false, false, false, false, false, false, false, false, false, false, false, false]
 | 15 => some [false, false, true, true, true, false, true, true, true, true, true, true, true, true, true, false, false, false, false, false, false, false, false, false, false, false, false, false, false, false, false, false, false, false, false, false, false, false, false, false, false, false, false, false, false, false, false, false, false, false, false, false, false, false, false, false, false, false, false, false, false, false, false, false, false, false, false, false, false, false, false, false, false, false, false, false, false, false, false, false, false, false, false, false, false, false, false, false, false, false, false, false, false, false, false, false, false, false, false, false, false, false, false, false, false, false, false, false, false, false, false, false, false, false, false, false, false, false, false, false, false, false, false, false, false, false, false, false, false, false, false, false, false, false, false, false, false, false, false, false, false, false, false, false, false, false, false, false, false, false, false, false, false, false, false, false, false, false, false, false, false, false, false, false, false, false, false, false, false, false, false, false, false, false, false, false, false, false, false, false, false, false, false, false, false, false, false, false, false, false, false, false, false, false, false, false, false, false, false, false, false]
 | 16 => some [false, false, true, false, false, false, false, false, false, false, false, false, false, false, false, false, false, false, false, false, false, false, false, false, false, false, false, false, false]
 | 18 => some [false, true, false, true, true, false, true, false, false, false, false, false, false, false, false, false, false, false, false, false, false, false, false, false, false, false, false, false, false, false, false, false, false, false, false, false, false, false, false, false, false, false, false, false, false, false, false, false, false, false, false, false, false, false, false, false, false, false, false, false, false, false, false, false, false, false, false, false, false, false, false, false, false, false, false, false, false, false, false, false, false, false, false, false, false, false, false, false, false, false, false, false, false, false, false, false, false, false, false, false]
 | 21 => some [false, true, true, false, true, true, true, false, false, false, false, false, false, false, false, false, false, false, false, false, false, false, false, false, false, false, false, false, false, false, false, false, false, false, false, false, false, false, false, false, false, false, false, false, false, false, false, false, false, false, false, false, false, false, false, false, false, false, false, false, false, false, false, false, false, false, false, false, false]
 | 22 => some [false, true, true, false, true, true, true, true, false, false, false, false, false, false, false, false, false, false, false, false, false, false, false, false, false, false, false, false, false, false, false, false, false, false, false, false, false, false, false, false, false, false, false, false, false, false, false, false, false, false, false, false, false, false, false, false, false, false, false, false, false, false, false, false, false, false, false, false, false, false, false, false, false, false, false, false, false, false, false, false, false, false, false, false, false, false, false, false, false, false, false]
 | 23 => some [false, true, false, false, true, true, false, false, false, false, false, false, false, false, false, false, false, false, false, false, false, false, true, true, false, false, false, false, false, false, false, false, false, false, false, false, false, false, false, true, true, false, false, false, false, false, false, false, false, false, false, false, false, false, false, false, false]
 | 24 => some [false, true, true, false, true, false, true, true, true, false, false, false, false, false, false, false, false, false, false, false, false, false, false, false, false, false, false, false, false, false, false, false, false, false, false, false, false, false, false, false, false, false, false, false, false, false, false, false, false, false, false, false, false, false, false, false, false, false, false, false, false, false, false, false, false, false, false, false, false, false, false, false, false, false, false, false, false, false, false, false]
 | 25 => some [false, false, true, true, false, true, false, false, false, false, false, false, false, false, false, false, false, false, false, false, false, false, false, false, false, false, false, false, false, false, false, false, false, false, false, false, false, false, false, false]
 | 26 => some [false, true, false, false, true, true, true, false, true, false, false, false, false, false, false, false, false, false, false, false, false, false, false, false, false, false, false, false, false, false, false, false, false, false, false, false, false, false, false, false, false, false, false, false, false, false, false, false, false, false, false, false, false, false, false, false, false, false, false, false, false, false, false, false, false, false, false, false, false, false, false, false, false, false, false, false, false, false, false, false, false, false, false, false, false]
 | 32 => some [false, false, false, false, false, false, false, false, true, true, true, false, false, false, false, false, false, false]
 | 33 => some [true, false, false, false, false, true, true, true, true, false, false, false, false, false, false, false, false, false, false, false, false, false, false, false, false, false, false, false, false, false, false, false, false, false, false, false, false, false, false, false, false, false, false, false, false]
 | 34 => some [false, false, false, true, false, false, true, true, true, false, false, false, false, false, false, false, false, false, false, false, false, false, false, false, false, false, false, false, false, false]
 | 37 => some [true, true, false, false, false, false, false, false, false, false, false, false, true, true, false, false, false, false, false, false, false, false, false, false, false, false]
 | 38 => some [true, false, true, true, false, false, false, false, false, false, false, false, false, false, false, false, false, false, false, false, false, false, false, false, false, false, false, false, false, false, false, false, false, false, false]
 | 44 => some [true, false, false, true, false, false, true, false, false, true, true, true, false, false, false, false, false, false, false, false, false, false, false, false, false, true, true, true, false, false, false, false, false, false, false, false]
 | 47 => some [true, false, false, true, false, false, true, false, false, true, true, true, false, false, false, false, false, false, false, false, false, false, false, false, false, true, true, true, false, false, false, false, false, false, false, false]
 | 49 => some [false, true, true, false, false, false, false, false, false, false, false, false, false, false, true, true, false, false, false, false, false, false, false, false, false, false, false, false, false, false, false, false]
 | 52 => some [true, false, false, true, false, false, false, false, false, false, false, false, false, false, false, false, false, false, false, false, false, false, false, false, false, false, false, false, false, false, false, false, false, false, false, false, false, false, false, false, false, false, false, false, false, false, false, false, false, false, false, false, false, false, false, false, false, false, false, false, false, false]
 | 53 => some [true, false, false, false, false, true, true, true, false, false, false, false, false, false, false, false, false, false, false, false]
 | 56 => some [true, false, false, true, false, false, false, false, false, false, false, false, false, false, false, false, false, false, false, false]
 | 57 => some [true, false, false, true, true, false, false, false, false, false, false, false, false, false, false, false, false, false, false, false, false, false, false, false, false, false, false, false, false, false, false]
 | 59 => some [true, true, false, false, false, false, false, false, false, false, false, false, true, true, false, false, false, false, false, false, false, false, false, false, false, false]
 | 60 => some [false, true, true, false, false, false, false, false, false, false, false, false, false, false, false, true, true, true, false, false, false, false, false, false, false, false, false, false, false, false, false, false]
 | 66 => some [true, false, false, false, false, true, true, true, false, false, false, false, false, false, false, false, false, false, false, false, false, false, false, false, false, false, false, false, false, false, false, false, false, false, false, false, false, false, false, false, false, false, false]
 | 79 => some [true, false, false, true, false, false, false, false, false, false, false, false, false]
 | 82 => some [true, true, false, false, false, false, false, true, true, false, false, false, false, false, false, false, false, false, false]
 | 87 => some [true, false, false, false, true, false, false, true, true, false, false, false, false, false, false, false, false, false, false, false, false, false, false, false, false]
 | 90 => some [true, false, false, false, false, true, true, true, false, false, false, false, false, false, false, false]
 | 94 => some [true, false, false, false, false, true, true, true, false, false, false, false, false, false, false, false]
 | 97 => some [false, true, true, false, false, false, false, false, false, false, true, false, false, false, false, false, false, false, false, false, false]
 | 98 => some [true, true, false, false, false, false, false, true, true, false, false, false, false, false, false, false, false, false, false]
 | 100 => some [false, false, true, false, false, false, false, false, false, false, false, false, false]
 | 101 => some [true, true, true, false, false, false, true, true, true, false, false, false, false, false, false, false, false, false, false, false, false, false, false, false, false, false, false, false, false, false, false, false, false, false, false, false, false, false, false, false, false, false, false, false, false, false, false, false, false, false, false, false, false, false, false, false, false, false, false, false, false, false, false]
 | 102 => some [false, false, true, false, false, false, false, false, false, false, false, false, false]
 | 103 => some [true, true, true, false, false, false, true, true, true, false, false, false, false, false, false, false, false, false, false, false, false, false, false, false, false, false, false, false, false, false, false, false, false, false, false, false, false, false, false, false, false, false, false, false, false, false, false, false, false, false, false, false, false, false, false, false, false, false, false, false, false, false, false]
 | 104 => some [true, true, true, true, false, false, false, false, true, true, false, false, false, false, false, false, false, false, false, false, false, false, false, false, false, false, false, false, false, false, false, false, false, false, false, false, false, false, false, false, false, false, false, false, false, false, false, false, false, false, false, false, false]
 | 105 => some [true, true, true, true, true, false, false, false, false, false, true, true, false, true, true, true, false, true, true, true, true, true, true, false, false, false, false, false, false, false, false, false, false, false, false, false, false, false, false, false, false, false, false, false, false, false, false, false, false, false, false, false, false, false, false, false, false, false, false, false, false, false, false, false, false, false, false, false, false, false, false, false, false, false, false, false, false, false, false, false, false, false, false, false, false, false, false, false, false, false, false, false, false, false, false, false, false, false, false, false, false, false, false, false, false, false, false, false, false, false, false, false, false, false, false, false, false, false, false, false, false, false, false, false, false, false, false, false, false, false, false, false, false, false, false, false, false, false, false, false, false, false, false, false, false, false, false, false, false, false, false, false, false, false, false, false, false, false, false, false, false, false, false, false, false, false, false, false, false, false, false, false, false, false, false, false, false, false, false, false, false, false, false, false, false, false, false, false, false, false, false, false, false, false, false, false, false, false, false, false, false, false, false, false, false, false, false, false, false, false, false, false, false, false, false, false, false, false, false, false]
 | 106 => some [true, true, true, true, false, false, false, false, true, true, false, false, false, false, false, false, false, false, false, false, false, false, false, false, false, false, false, false, false, false, false, false, false, false, false, false, false, false, false, false, false, false, false, false, false, false, false, false, false, false, false, false, false]
 | 107 => some [true, true, true, true, true, false, false, false, false, false, true, true, false, true, true, true, false, true, true, true, true, true, true, false, false, false, false, false, false, false, false, false, false, false, false, false, false, false, false, false, false, false, false, false, false, false, false, false, false, false, false, false, false, false, false, false, false, false, false, false, false, false, false, false, false, false, false, false, false, false, false, false, false, false, false, false, false, false, false, false, false, false, false, false, false, false, false, false, false, false, false, false, false, false, false, false, false, false, false, false, false, false, false, false, false, false, false, false, false, false, false, false, false, false, false, false, false, false, false, false, false, false, false, false, false, false, false, false, false, false, false, false, false, false, false, false, false, false, false, false, false, false, false, false, false, false, false, false, false, false, false, false, false, false, false, false, false, false, false, false, false, false, false, false, false, false, false, false, false, false, false, false, false, false, false, false, false, false, false, false, false, false, false, false, false, false, false, false, false, false, false, false, false, false, false, false, false, false, false, false, false, false, false, false, false, false, false, false, false, false, false, false, false, false, false, false, false, false, false, false]
 | 108 => some [true, false, true, false, true, false, false, false, false, false, true, true, false, false, false, false, false, false, false, false, false, false, false, false, false, false, false, false, false, false, false, false, false, false, false, false, false, false, false, false, false, false, false, false, false, false, false, false, false, false, false, false, false, false, false, false, false, false]
 | 109 => some [true, false, true, false, true, false, false, false, false, false, true, true, false, false, false, false, false, false, false, false, false, false, false, false, false, false, false, false, false, false, false, false, false, false, false, false, false, false, false, false, false, false, false, false, false, false, false, false, false, false, false, false, false, false, false, false, false, false]
 | 110 => some [true, true, true, true, false, false, false, false, false, false, true, false, false, false, false, false, false, false, false, false, false, false, false, false, false, false, false, false, false, false, false, false, false, false, false, false, false, false]
 | 111 => some [true, true, true, true, false, false, false, false, false, false, true, false, false, false, false, false, false, false, false, false, false, false, false, false, false, false, false, false, false, false, false, false, false, false, false, false, false, false]
 | _ => none
def parrs : List Nat := [44, 47, 70, 74, 76, 77, 100, 102]
def pfrees : List Nat := [9, 34, 57]
def porders : Nat → Nat → List (List Nat) := fun f id => match f, id with
 | 3, 8 => [[0, 1, 2, 3, 4, 5, 6, 7, 8, 9, 10, 11, 12, 13, 14, 15]]
 | 4, 19 => [[0, 2, 3, 4, 1, 5, 6, 7, 8, 9, 10, 11, 15, 16, 17, 12, 13, 14, 18, 19]]
 | 5, 16 => [[0, 1, 2, 3, 4, 5, 6, 7, 8, 9, 10, 11, 12, 13, 14, 15, 16, 17, 18, 19, 20, 21, 22, 23]]
 | 7, 5 => [[0, 3, 1, 2, 4, 5, 6, 7, 8, 9, 10, 11, 12, 13, 14, 16, 15, 17, 18]]
 | 9, 6 => [[0, 2, 1, 3, 4, 5, 6, 7, 8, 9, 10, 11, 12, 13, 14, 15, 16, 17, 18, 19, 20, 21, 22, 23, 24, 25, 26, 27, 28, 29, 30, 31, 32, 33, 34, 35, 36, 37, 38, 39, 40, 41, 42, 43, 44, 45, 46, 47, 48]]
 | 10, 10 => [[0, 1, 2, 3, 4, 6, 5, 7, 8, 9, 10, 11]]
 | 10, 16 => [[0, 1, 2, 3, 4, 6, 7, 8, 9, 10, 12, 13, 5, 11, 14, 15, 16, 17, 18]]
 | 10, 19 => [[0, 1, 2, 3, 5, 6, 7, 8, 9, 4, 10, 11, 12, 13]]
 | 12, 4 => [[0, 2, 3, 4, 5, 6, 1, 7, 8]]
 | 13, 6 => [[0, 1, 2, 3, 4, 5, 6, 7, 8, 9, 10, 11, 12, 13, 14, 15, 16, 17, 18, 19, 20, 21, 22, 23, 24, 25, 26, 27, 28, 29]]
 | 13, 11 => [[0, 1, 2, 3, 4, 5, 6, 7, 8, 9, 10]]
 | 14, 4 => [[0, 1, 2, 3, 4, 7, 8, 9, 10, 11, 5, 6, 12, 13, 14, 15]]
 | 14, 8 => [[0, 1, 2, 3, 4, 5, 7, 8, 9, 10, 11, 12, 6, 13, 14]]
 | 14, 12 => [[0, 1, 2, 3, 4, 5, 6, 7, 8, 9, 10, 11, 12, 13, 14]]
 | 15, 9 => [[0, 1, 2, 3, 4, 5, 6, 7, 8, 9, 10, 11, 12, 13, 14, 15, 16, 17, 18, 19, 20, 21, 22, 23, 24, 25, 26, 27]]
 | 15, 17 => [[0, 1, 2, 3, 4, 5, 6, 7, 8, 9, 10, 11, 12]]
 | 15, 24 => [[0, 1, 2, 3, 4, 5, 6, 7, 8, 9, 10, 11, 12, 13, 14, 15, 16, 17, 18, 19]]
 | 15, 26 => [[0, 1, 2, 3, 4, 5, 6, 7, 8, 9, 10, 11, 12, 13, 14, 15, 16, 17, 18, 19]]
 | 15, 31 => [[0, 1, 2, 3, 4, 5, 6, 7, 8, 9, 10, 11, 12, 13, 14, 15, 16, 17, 18, 19]]
 | 15, 33 => [[0, 1, 2, 3, 4, 5, 6, 7, 8, 9, 10, 11, 12, 13, 14, 15, 16, 17, 18, 19]]
 | 18, 15 => [[0, 1, 2, 3, 4, 5, 6, 7, 8, 9, 10, 11, 12, 13, 14, 15, 16, 17, 18, 19, 20, 21, 22, 23, 24, 25, 26, 27, 28, 29]]
 | 21, 8 => [[0, 1, 2, 3, 4, 5, 6, 7, 8, 9, 10, 11, 12, 13, 14, 15, 16, 17, 18, 19]]
 | 21, 10 => [[0, 1, 2, 3, 4, 5, 6, 7, 8, 9, 10, 11, 12, 13, 14, 15, 16, 17, 18, 19]]
 | 22, 7 => [[0, 1, 2, 3, 4, 5, 6, 7, 8, 9, 10, 11, 12, 13, 14, 15, 16, 17, 18, 19, 20, 21, 22, 23]]
 | 22, 12 => [[0, 1, 2, 3, 4, 5, 6, 7, 8, 9, 10, 11, 12, 13, 14, 15, 16, 17, 18, 19]]
 | 22, 14 => [[0, 1, 2, 3, 4, 5, 6, 7, 8, 9, 10, 11, 12, 13, 14, 15, 16, 17, 18, 19]]
 | 24, 7 => [[0, 2, 3, 4, 5, 6, 7, 8, 9, 10, 11, 12, 13, 14, 15, 16, 17, 1, 18, 19, 20]]
 | 24, 11 => [[0, 2, 3, 4, 5, 6, 7, 8, 9, 10, 11, 12, 13, 14, 15, 16, 17, 1, 18, 19, 20]]
 | 25, 6 => [[0, 1, 2, 3, 4, 5, 6, 7, 8, 9, 10]]
 | 26, 9 => [[0, 1, 2, 3, 4, 7, 8, 9, 12, 13, 5, 6, 10, 11, 14, 15]]
 | 26, 16 => [[0, 1, 2, 3, 4, 5, 6, 7, 8, 9, 10, 11, 12, 13, 14]]
 | 37, 6 => [[0, 1, 2, 3, 4, 5, 6, 7, 8]]
 | 49, 1 => [[0, 1, 3, 4, 2, 6, 5, 7, 8, 9], [0, 1, 2, 3, 4, 5, 6, 7, 8, 9], [0, 1, 2, 3, 4, 5, 6, 7, 8, 9]]
 | 49, 5 => [[0, 1, 2, 3, 4, 5, 6, 7, 8, 9, 10, 11, 12]]
 | 53, 3 => [[0, 1, 2, 3, 4, 5, 6, 7]]
 | 59, 6 => [[0, 1, 2, 3, 4, 5, 6, 7, 8]]
 | 66, 4 => [[0, 1, 2, 3, 4, 5, 6, 7, 8, 9, 10, 11, 12, 13, 14, 15, 16, 17, 18, 19, 20, 21, 22, 23, 24, 25, 26, 27, 28, 29]]
 | 104, 4 => [[0, 1, 2, 3, 4, 5, 6, 7, 8, 9, 10, 11, 12, 13, 14, 15, 16]]
 | 104, 6 => [[0, 1, 2, 3, 4, 5, 6, 7, 8, 9, 10, 11, 12, 13, 14, 15, 16, 17], [0, 1, 2, 3, 4, 5, 6, 7, 8, 9, 10, 11, 12, 13, 14, 15, 16, 17], [0, 1, 5, 6, 7, 8, 9, 10, 11, 12, 13, 14, 15, 2, 3, 4, 16, 17]]
 | 105, 5 => [[0, 1, 2, 3, 4, 5, 6, 7, 8, 9, 10]]
 | 105, 11 => [[0, 1, 2, 3, 4, 5, 6, 7, 8, 9, 10, 11, 12, 13, 14, 15, 16, 17], [0, 1, 2, 3, 4, 5, 6, 7, 8, 9, 10, 11, 12, 13, 14, 15, 16, 17], [0, 1, 5, 6, 7, 8, 9, 10, 11, 12, 13, 14, 15, 2, 3, 4, 16, 17]]
 | 105, 17 => [[0, 1, 2, 3, 4, 5, 6, 7, 8, 9, 10, 11]]
 | 105, 23 => [[0, 1, 2, 3, 4, 5, 6, 7, 8, 9, 10, 11, 12, 13, 14, 15, 16, 17], [0, 1, 2, 3, 4, 5, 6, 7, 8, 9, 10, 11, 12, 13, 14, 15, 16, 17], [0, 1, 5, 6, 7, 8, 9, 10, 11, 12, 13, 14, 15, 2, 3, 4, 16, 17]]
 | 105, 35 => [[0, 1, 2, 3, 4, 5, 6, 7, 8, 9, 10, 11, 12, 13]]
 | 106, 4 => [[0, 1, 2, 3, 4, 5, 6, 7, 8, 9, 10, 11, 12, 13, 14, 15, 16]]
 | 106, 6 => [[0, 1, 2, 3, 4, 5, 6, 7, 8, 9, 10, 11, 12, 13, 14, 15, 16, 17], [0, 1, 2, 3, 4, 5, 6, 7, 8, 9, 10, 11, 12, 13, 14, 15, 16, 17], [0, 1, 5, 6, 7, 8, 9, 10, 11, 12, 13, 14, 15, 2, 3, 4, 16, 17]]
 | 107, 5 => [[0, 1, 2, 3, 4, 5, 6, 7, 8, 9, 10]]
 | 107, 11 => [[0, 1, 2, 3, 4, 5, 6, 7, 8, 9, 10, 11, 12, 13, 14, 15, 16, 17], [0, 1, 2, 3, 4, 5, 6, 7, 8, 9, 10, 11, 12, 13, 14, 15, 16, 17], [0, 1, 5, 6, 7, 8, 9, 10, 11, 12, 13, 14, 15, 2, 3, 4, 16, 17]]
 | 107, 17 => [[0, 1, 2, 3, 4, 5, 6, 7, 8, 9, 10, 11]]
 | 107, 23 => [[0, 1, 2, 3, 4, 5, 6, 7, 8, 9, 10, 11, 12, 13, 14, 15, 16, 17], [0, 1, 2, 3, 4, 5, 6, 7, 8, 9, 10, 11, 12, 13, 14, 15, 16, 17], [0, 1, 5, 6, 7, 8, 9, 10, 11, 12, 13, 14, 15, 2, 3, 4, 16, 17]]
 | 107, 35 => [[0, 1, 2, 3, 4, 5, 6, 7, 8, 9, 10, 11, 12, 13]]
 | 110, 3 => [[0, 1, 2, 3, 4, 5, 6, 7, 8, 9, 10, 11, 12, 13, 14, 15, 16, 17, 18, 19, 20, 21, 22, 23], [0, 1, 2, 3, 4, 5, 6, 7, 8, 9, 10, 11, 12, 13, 14, 15, 16, 17, 18, 19, 20, 21, 22, 23], [0, 1, 2, 3, 8, 9, 10, 11, 12, 13, 14, 15, 16, 17, 18, 19, 20, 21, 4, 5, 6, 7, 22, 23]]
 | 111, 3 => [[0, 1, 2, 3, 4, 5, 6, 7, 8, 9, 10, 11, 12, 13, 14, 15, 16, 17, 18, 19, 20, 21, 22, 23], [0, 1, 2, 3, 4, 5, 6, 7, 8, 9, 10, 11, 12, 13, 14, 15, 16, 17, 18, 19, 20, 21, 22, 23], [0, 1, 2, 3, 8, 9, 10, 11, 12, 13, 14, 15, 16, 17, 18, 19, 20, 21, 4, 5, 6, 7, 22, 23]]
 | _, _ => []
def pneeds : Nat → Nat → List Nat := fun f id => match f, id with
 | 3, 8 => [0, 1, 2, 3, 4, 5, 6, 9, 10, 11, 12, 13, 14]
 | 4, 19 => [0, 1, 2, 3, 4, 7, 8, 9, 10, 11, 12, 13, 14, 15, 16, 17]
 | 5, 16 => [0, 1, 2, 5, 6, 7, 10, 14, 15, 16, 17, 18, 19, 20, 21]
 | 7, 5 => [0, 1, 2, 3, 7, 8, 9, 10]
 | 9, 6 => [8, 14, 18, 19, 20, 21, 22]
 | 10, 10 => [0, 1, 2, 3, 4, 5, 6, 7]
 | 10, 16 => [0, 1, 2, 3, 4, 5, 6, 7, 8, 9, 10, 11, 12, 13, 14]
 | 10, 19 => [0, 1, 2, 3, 4, 5, 6, 7, 8, 9, 10, 11]
 | 12, 4 => [0, 1, 2, 4]
 | 13, 6 => [0, 1, 2, 3, 4, 5, 6, 7, 8, 9, 10, 11, 14, 15, 16, 17, 18, 19, 20, 21, 22, 23, 24, 25, 26, 27]
 | 13, 11 => [0, 1, 2, 3, 4, 5, 6, 7, 8, 9]
 | 14, 4 => [0, 1, 2, 3, 4, 5, 6, 7, 8, 9, 10, 11]
 | 14, 8 => [0, 1, 2, 3, 4, 5, 6, 7, 8, 9, 10, 11, 12]
 | 14, 12 => [0, 1, 2, 3, 4, 5, 6, 7, 8, 9, 10, 11, 12]
 | 15, 9 => [0, 1, 2, 3, 4, 5, 6, 7, 8, 9, 10, 11, 14, 15, 16, 17, 18, 19, 20, 21, 22, 23, 24, 25]
 | 15, 17 => [0, 1, 2, 3, 4, 5, 6, 7, 8, 9, 10, 11]
 | 15, 24 => [0, 2, 3, 6, 7, 8, 9, 10, 11, 12, 13, 14, 15, 16, 17]
 | 15, 26 => [0, 1, 2, 3, 4, 5, 6, 7, 8, 9, 10, 11, 12, 13, 14, 15, 16, 17]
 | 15, 31 => [0, 2, 3, 6, 7, 8, 9, 10, 11, 12, 13, 14, 15, 16, 17]
 | 15, 33 => [0, 1, 2, 3, 4, 5, 6, 7, 8, 9, 10, 11, 12, 13, 14, 15, 16, 17]
 | 18, 15 => [1, 6, 11, 18, 19, 20, 21, 22, 23, 24, 25, 26]
 | 21, 8 => [0, 2, 3, 6, 7, 8, 9, 10, 11, 12, 13, 14, 15, 16, 17]
 | 21, 10 => [0, 1, 2, 3, 4, 5, 6, 7, 8, 9, 10, 11, 12, 13, 14, 15, 16, 17]
 | 22, 7 => [0, 1, 2, 3, 4, 5, 6, 7, 8, 9, 10, 11, 12, 13, 14, 15, 16, 17, 18, 19, 20, 21]
 | 22, 12 => [0, 2, 3, 6, 7, 8, 9, 10, 11, 12, 13, 14, 15, 16, 17]
 | 22, 14 => [0, 1, 2, 3, 4, 5, 6, 7, 8, 9, 10, 11, 12, 13, 14, 15, 16, 17]
 | 24, 7 => [0, 1, 2, 3, 4, 5, 6, 7, 8, 9, 10, 11, 12, 13, 14, 15, 18]
 | 24, 11 => [0, 1, 2, 3, 4, 5, 6, 7, 8, 9, 10, 11, 12, 13, 14, 15, 18]
 | 25, 6 => [0, 1, 2, 3, 4, 5, 6, 7, 8, 9]
 | 26, 9 => [0, 1, 2, 3, 4, 5, 6, 7, 8, 9, 10, 11, 12, 13, 14]
 | 26, 16 => [0, 1, 2, 3, 4, 5, 6, 7, 8, 9, 10, 11, 13]
 | 37, 6 => [0, 1, 2, 3, 4, 5, 6, 7]
 | 49, 1 => [0, 1, 2, 3, 4]
 | 49, 5 => [0, 1, 2, 3, 4, 5, 6, 7, 8, 9]
 | 53, 3 => [0, 1, 2, 3, 4, 5]
 | 59, 6 => [0, 1, 2, 3, 4, 5, 6, 7]
 | 66, 4 => [1, 6, 11, 18, 19, 20, 21, 22, 23, 24, 25, 26]
 | 104, 4 => [4, 5, 6, 7, 8, 9, 10, 11, 12, 13]
 | 104, 6 => [0, 1, 2, 3, 4, 5, 6, 7, 8, 9, 10, 11, 12, 13]
 | 105, 5 => [0, 1, 2, 3, 4, 5, 6, 7, 8]
 | 105, 11 => [0, 1, 2, 3, 4, 5, 6, 7, 8, 9, 10, 11, 12, 13]
 | 105, 17 => [0, 1, 2, 3, 4, 5, 6, 7, 8]
 | 105, 23 => [0, 1, 2, 3, 4, 5, 6, 7, 8, 9, 10, 11, 12, 13]
 | 105, 35 => [0, 1, 2, 3, 4, 5, 6, 7, 8, 9, 10]
 | 106, 4 => [4, 5, 6, 7, 8, 9, 10, 11, 12, 13]
 | 106, 6 => [0, 1, 2, 3, 4, 5, 6, 7, 8, 9, 10, 11, 12, 13]
 | 107, 5 => [0, 1, 2, 3, 4, 5, 6, 7, 8]
 | 107, 11 => [0, 1, 2, 3, 4, 5, 6, 7, 8, 9, 10, 11, 12, 13]
 | 107, 17 => [0, 1, 2, 3, 4, 5, 6, 7, 8]
 | 107, 23 => [0, 1, 2, 3, 4, 5, 6, 7, 8, 9, 10, 11, 12, 13]
 | 107, 35 => [0, 1, 2, 3, 4, 5, 6, 7, 8, 9, 10]
 | 110, 3 => [0, 1, 2, 3, 4, 5, 6, 7, 8, 9, 10, 11, 12, 13, 14, 15, 16, 17, 18, 19]
 | 111, 3 => [0, 1, 2, 3, 4, 5, 6, 7, 8, 9, 10, 11, 12, 13, 14, 15, 16, 17, 18, 19]
 | _, _ => []
def pwrs : Nat → Nat → List Nat := fun f id => match f, id with
 | 3, 8 => [56, 9, 57, 58, 59, 60, 61, 62, 63, 64, 65, 66, 67, 68, 69, 70]
 | 4, 19 => [86, 87, 88, 89, 90, 91, 92, 93, 94, 95, 96, 97, 98, 99, 100, 101, 102, 103, 104, 105]
 | 5, 16 => [31, 32, 33, 34, 35, 36, 37, 38, 39, 40, 41, 42, 43, 44, 45, 46, 47, 48, 49, 50, 51, 52, 53, 54]
 | 7, 5 => [23, 24, 25, 26, 27, 28, 29, 30, 31, 32, 33, 34, 35, 36, 37, 38, 39, 40, 41]
 | 9, 6 => [38, 39, 40, 41, 42, 43, 44, 45, 46, 47, 48, 49, 50, 51, 52, 53, 54, 55, 56, 57, 58, 59, 60, 61, 62, 63, 64, 65, 66, 67, 68, 69, 70, 71, 72, 73, 74, 75, 76, 77, 78, 79, 80, 81, 82, 83, 84, 85, 0]
 | 10, 10 => [36, 37, 38, 39, 40, 41, 42, 43, 44, 45, 46]
 | 10, 16 => [64, 65, 66, 67, 68, 69, 70, 71, 72, 73, 74, 75, 76, 77, 78, 79, 80, 81]
 | 10, 19 => [88, 89, 90, 91, 92, 93, 94, 95, 96, 97, 98, 99]
 | 12, 4 => [28, 29, 30, 31, 32, 33, 34, 35, 36]
 | 13, 6 => [30, 31, 32, 33, 34, 35, 36, 37, 38, 39, 40, 41, 42, 43, 44, 45, 46, 47, 48, 49, 50, 51, 52, 53, 54, 55, 56, 57, 58, 59]
 | 13, 11 => [67, 68, 69, 70, 71, 72, 73, 74, 75, 76, 77]
 | 14, 4 => [13, 14, 15, 16, 17, 18, 19, 20, 21, 22, 23, 24, 25, 26, 27]
 | 14, 8 => [35, 36, 37, 38, 39, 40, 41, 42, 43, 44, 45, 46, 47, 48, 49]
 | 14, 12 => [57, 58, 59, 60, 61, 62, 63, 64, 65, 66, 67, 68, 69, 70, 71]
 | 15, 9 => [38, 39, 40, 41, 42, 43, 44, 45, 46, 47, 48, 49, 50, 51, 52, 53, 54, 55, 56, 57, 58, 59, 60, 61, 62, 63, 64, 65]
 | 15, 17 => [81, 82, 83, 84, 85, 86, 87, 88, 89, 90, 91, 92, 93]
 | 15, 24 => [107, 108, 109, 110, 111, 112, 113, 114, 115, 116, 117, 118, 119, 120, 121, 122, 123, 124, 125, 126]
 | 15, 26 => [129, 130, 131, 132, 133, 134, 135, 136, 137, 138, 139, 140, 141, 142, 143, 144, 145, 146, 147]
 | 15, 31 => [155, 156, 157, 158, 159, 160, 161, 162, 163, 164, 165, 166, 167, 168, 169, 170, 171, 172, 173, 174]
 | 15, 33 => [177, 178, 179, 180, 181, 182, 183, 184, 185, 186, 187, 188, 189, 190, 191, 192, 193, 194, 195]
 | 18, 15 => [70, 71, 72, 73, 74, 75, 76, 77, 78, 79, 80, 81, 82, 83, 84, 85, 86, 87, 88, 89, 90, 91, 92, 93, 94, 95, 96, 97, 98, 99]
 | 21, 8 => [23, 24, 25, 26, 27, 28, 29, 30, 31, 32, 33, 34, 35, 36, 37, 38, 39, 40, 41, 42]
 | 21, 10 => [45, 46, 47, 48, 49, 50, 51, 52, 53, 54, 55, 56, 57, 58, 59, 60, 61, 62, 63]
 | 22, 7 => [19, 20, 21, 22, 23, 24, 25, 26, 27, 28, 29, 30, 31, 32, 33, 34, 35, 36, 37, 38, 39, 40, 41]
 | 22, 12 => [49, 50, 51, 52, 53, 54, 55, 56, 57, 58, 59, 60, 61, 62, 63, 64, 65, 66, 67, 68]
 | 22, 14 => [71, 72, 73, 74, 75, 76, 77, 78, 79, 80, 81, 82, 83, 84, 85, 86, 87, 88, 89]
 | 24, 7 => [28, 29, 30, 31, 32, 33, 34, 35, 36, 37, 38, 39, 40, 41, 42, 43, 44, 45, 46, 47]
 | 24, 11 => [55, 56, 57, 58, 59, 60, 61, 62, 63, 64, 65, 66, 67, 68, 69, 70, 71, 72, 73, 74]
 | 25, 6 => [29, 30, 31, 32, 33, 34, 35, 36, 37, 38, 39]
 | 26, 9 => [32, 4, 33, 34, 35, 36, 37, 38, 39, 40, 41, 42, 43, 44, 45, 46]
 | 26, 16 => [67, 4, 68, 69, 70, 71, 72, 73, 74, 75, 76, 77, 78, 79, 80]
 | 37, 6 => [16, 17, 18, 19, 20, 21, 22, 23, 24]
 | 49, 1 => [4, 5, 6, 7, 8, 9, 10, 11]
 | 49, 5 => [18, 19, 20, 21, 22, 23, 24, 25, 26, 27, 28, 29]
 | 53, 3 => [11, 12, 13, 14, 15, 16, 17, 18]
 | 59, 6 => [16, 17, 18, 19, 20, 21, 22, 23, 24]
 | 66, 4 => [12, 13, 14, 15, 16, 17, 18, 19, 20, 21, 22, 23, 24, 25, 26, 27, 28, 29, 30, 31, 32, 33, 34, 35, 36, 37, 38, 39, 40, 41]
 | 104, 4 => [18, 19, 20, 21, 22, 23, 24, 25, 26, 27, 28, 29, 30, 31, 32, 33, 34]
 | 104, 6 => [37, 38, 39, 40, 41, 42, 43, 44, 45, 46, 47, 48, 49, 50, 51, 52]
 | 105, 5 => [40, 41, 42, 43, 44, 45, 46, 47, 48, 49, 50]
 | 105, 11 => [61, 62, 63, 64, 65, 66, 67, 68, 69, 70, 71, 72, 73, 74, 75, 76]
 | 105, 17 => [92, 93, 94, 95, 96, 97, 98, 99, 100, 101, 102, 103]
 | 105, 23 => [113, 114, 115, 116, 117, 118, 119, 120, 121, 122, 123, 124, 125, 126, 127, 128]
 | 105, 35 => [158, 159, 160, 161, 162, 163, 164, 165, 166, 167, 168, 169, 170, 171]
 | 106, 4 => [18, 19, 20, 21, 22, 23, 24, 25, 26, 27, 28, 29, 30, 31, 32, 33, 34]
 | 106, 6 => [37, 38, 39, 40, 41, 42, 43, 44, 45, 46, 47, 48, 49, 50, 51, 52]
 | 107, 5 => [40, 41, 42, 43, 44, 45, 46, 47, 48, 49, 50]
 | 107, 11 => [61, 62, 63, 64, 65, 66, 67, 68, 69, 70, 71, 72, 73, 74, 75, 76]
 | 107, 17 => [92, 93, 94, 95, 96, 97, 98, 99, 100, 101, 102, 103]
 | 107, 23 => [113, 114, 115, 116, 117, 118, 119, 120, 121, 122, 123, 124, 125, 126, 127, 128]
 | 107, 35 => [158, 159, 160, 161, 162, 163, 164, 165, 166, 167, 168, 169, 170, 171]
 | 110, 3 => [16, 17, 18, 19, 20, 21, 22, 23, 24, 25, 26, 27, 28, 29, 30, 31, 32, 33, 34, 35, 36, 37]
 | 111, 3 => [16, 17, 18, 19, 20, 21, 22, 23, 24, 25, 26, 27, 28, 29, 30, 31, 32, 33, 34, 35, 36, 37]
 | _, _ => []
def ppol : Pol := { take := fun f t => (ptakes f).contains t, loc := fun f t => (plocs f).contains t, keep := pkeeps, arr := fun f _ => if parrs.contains f then 2 else 1, free := fun f => pfrees.contains f, orders := porders, need := pneeds, wr := pwrs, frz := fun f => ([43, 46, 14, 20, 23, 44, 47] : List Nat).contains f, fzr := fun f id => bif (f == 23 && id == 15) then [(4, 2)] else [] }
theorem ptake4 (t : Nat) : ppol.take 4 t = ([] : List Nat).contains t := (rfl)
theorem ploc4 (t : Nat) : ppol.loc 4 t = ([2, 3, 5, 7, 9, 12] : List Nat).contains t := (rfl)
theorem pkeep4 : ppol.keep 4 = some [false, false, true, true, false, false, false, false, false, true, false, true, false, false, false, false, false, false, false, false, false, false, false, false, false, false, false, false, false, false, false, false, false, false, false, false, false, false, false, false, false, false, false, false, false, false, false, false, false, false, false, false, false, false, false, false, false, false, false, false, false, false, false, false, false, false, false, false, false, false, false, false, false, false, false, false, false, false, false, false, false, false, false, false, false, false, false, false, false, false, false, false, false, false, false, false, false, false, false, false, false, false, false, false, false, false, false] := (rfl)
theorem parr4 (t : Nat) : ppol.arr 4 t = 1 := (rfl)
theorem pfree4 : ppol.free 4 = false := (rfl)
theorem porder4_19 : ppol.orders 4 19 = [[0, 2, 3, 4, 1, 5, 6, 7, 8, 9, 10, 11, 15, 16, 17, 12, 13, 14, 18, 19]] := (rfl)
theorem pneed4_19 : ppol.need 4 19 = [0, 1, 2, 3, 4, 7, 8, 9, 10, 11, 12, 13, 14, 15, 16, 17] := (rfl)
theorem pwr4_19 : ppol.wr 4 19 = [86, 87, 88, 89, 90, 91, 92, 93, 94, 95, 96, 97, 98, 99, 100, 101, 102, 103, 104, 105] := (rfl)
theorem ptake8 (t : Nat) : ppol.take 8 t = ([] : List Nat).contains t := (rfl)
theorem ploc8 (t : Nat) : ppol.loc 8 t = ([1] : List Nat).contains t := (rfl)
theorem pkeep8 : ppol.keep 8 = some [false, true, false, true, true, true, false, false, false, false, false, false, false, false, false, false, false, false, false, false, false, false, false, false, false, false, false, false, false, false, false, false, false, false, false, false, false, false, false, false, false, false, false, false, false, false, false, false, false, false, false, false, false, false, false, false, false, false, false, false] := (rfl)
theorem parr8 (t : Nat) : ppol.arr 8 t = 1 := (rfl)
theorem pfree8 : ppol.free 8 = false := (rfl)
theorem ptake11 (t : Nat) : ppol.take 11 t = ([] : List Nat).contains t := (rfl)
theorem ploc11 (t : Nat) : ppol.loc 11 t = ([] : List Nat).contains t := (rfl)
theorem pkeep11 : ppol.keep 11 = none := (rfl)
theorem parr11 (t : Nat) : ppol.arr 11 t = 1 := (rfl)
theorem pfree11 : ppol.free 11 = false := (rfl)
theorem ptake13 (t : Nat) : ppol.take 13 t = ([] : List Nat).contains t := (rfl)
theorem ploc13 (t : Nat) : ppol.loc 13 t = ([2, 3] : List Nat).contains t := (rfl)
theorem pkeep13 : ppol.keep 13 = some [false, false, true, true, false, true, true, false, false, false, false, false, false, false, false, false, false, false, false, false, false, false, false, false, false, false, false, false, false, false, false, false, false, false, false, false, false, false, false, false, false, false, false, false, false, false, false, false, false, false, false, false, false, false, false, false, false, false, false, false, false, false, false, false, false, false, false, false, false, false, false, false, false, false, false, false, false, false] := (rfl)
theorem parr13 (t : Nat) : ppol.arr 13 t = 1 := (rfl)
theorem pfree13 : ppol.free 13 = false := (rfl)
theorem porder13_6 : ppol.orders 13 6 = [[0, 1, 2, 3, 4, 5, 6, 7, 8, 9, 10, 11, 12, 13, 14, 15, 16, 17, 18, 19, 20, 21, 22, 23, 24, 25, 26, 27, 28, 29]] := (rfl)
theorem pneed13_6 : ppol.need 13 6 = [0, 1, 2, 3, 4, 5, 6, 7, 8, 9, 10, 11, 14, 15, 16, 17, 18, 19, 20, 21, 22, 23, 24, 25, 26, 27] := (rfl)
theorem pwr13_6 : ppol.wr 13 6 = [30, 31, 32, 33, 34, 35, 36, 37, 38, 39, 40, 41, 42, 43, 44, 45, 46, 47, 48, 49, 50, 51, 52, 53, 54, 55, 56, 57, 58, 59] := (rfl)
theorem porder13_11 : ppol.orders 13 11 = [[0, 1, 2, 3, 4, 5, 6, 7, 8, 9, 10]] := (rfl)
theorem pneed13_11 : ppol.need 13 11 = [0, 1, 2, 3, 4, 5, 6, 7, 8, 9] := (rfl)
theorem pwr13_11 : ppol.wr 13 11 = [67, 68, 69, 70, 71, 72, 73, 74, 75, 76, 77] := (rfl)
theorem ptake14 (t : Nat) : ppol.take 14 t = ([] : List Nat).contains t := (rfl)
theorem ploc14 (t : Nat) : ppol.loc 14 t = ([2, 3] : List Nat).contains t := (rfl)
theorem pkeep14 : ppol.keep 14 = some [false, false, false, false, true, true, true, true, false, false, false, false, false, false, false, false, false, false, false, false, false, false, false, false, false, false, false, false, false, false, false, false, false, false, false, false, false, false, false, false, false, false, false, false, false, false, false, false, false, false, false, false, false, false, false, false, false, false, false, false, false, false, false, false, false, false, false, false, false, false, false, false, false, false, false, false] := (rfl)
theorem parr14 (t : Nat) : ppol.arr 14 t = 1 := (rfl)
theorem pfree14 : ppol.free 14 = false := (rfl)
theorem porder14_4 : ppol.orders 14 4 = [[0, 1, 2, 3, 4, 7, 8, 9, 10, 11, 5, 6, 12, 13, 14, 15]] := (rfl)
theorem pneed14_4 : ppol.need 14 4 = [0, 1, 2, 3, 4, 5, 6, 7, 8, 9, 10, 11] := (rfl)
theorem pwr14_4 : ppol.wr 14 4 = [13, 14, 15, 16, 17, 18, 19, 20, 21, 22, 23, 24, 25, 26, 27] := (rfl)
theorem porder14_8 : ppol.orders 14 8 = [[0, 1, 2, 3, 4, 5, 7, 8, 9, 10, 11, 12, 6, 13, 14]] := (rfl)
theorem pneed14_8 : ppol.need 14 8 = [0, 1, 2, 3, 4, 5, 6, 7, 8, 9, 10, 11, 12] := (rfl)
theorem pwr14_8 : ppol.wr 14 8 = [35, 36, 37, 38, 39, 40, 41, 42, 43, 44, 45, 46, 47, 48, 49] := (rfl)
theorem porder14_12 : ppol.orders 14 12 = [[0, 1, 2, 3, 4, 5, 6, 7, 8, 9, 10, 11, 12, 13, 14]] := (rfl)
theorem pneed14_12 : ppol.need 14 12 = [0, 1, 2, 3, 4, 5, 6, 7, 8, 9, 10, 11, 12] := (rfl)
theorem pwr14_12 : ppol.wr 14 12 = [57, 58, 59, 60, 61, 62, 63, 64, 65, 66, 67, 68, 69, 70, 71] := (rfl)
theorem ptake15 (t : Nat) : ppol.take 15 t = ([] : List Nat).contains t := (rfl)
theorem ploc15 (t : Nat) : ppol.loc 15 t = ([2, 3, 4, 10] : List Nat).contains t := (rfl)
theorem pkeep15 : ppol.keep 15 = some [false, false, true, true, true, false, true, true, true, true, true, true, true, true, true, false, false, false, false, false, false, false, false, false, false, false, false, false, false, false, false, false, false, false, false, false, false, false, false, false, false, false, false, false, false, false, false, false, false, false, false, false, false, false, false, false, false, false, false, false, false, false, false, false, false, false, false, false, false, false, false, false, false, false, false, false, false, false, false, false, false, false, false, false, false, false, false, false, false, false, false, false, false, false, false, false, false, false, false, false, false, false, false, false, false, false, false, false, false, false, false, false, false, false, false, false, false, false, false, false, false, false, false, false, false, false, false, false, false, false, false, false, false, false, false, false, false, false, false, false, false, false, false, false, false, false, false, false, false, false, false, false, false, false, false, false, false, false, false, false, false, false, false, false, false, false, false, false, false, false, false, false, false, false, false, false, false, false, false, false, false, false, false, false, false, false, false, false, false, false, false, false, false, false, false, false, false, false, false, false, false] := (rfl)
theorem parr15 (t : Nat) : ppol.arr 15 t = 1 := (rfl)
theorem pfree15 : ppol.free 15 = false := (rfl)
theorem porder15_9 : ppol.orders 15 9 = [[0, 1, 2, 3, 4, 5, 6, 7, 8, 9, 10, 11, 12, 13, 14, 15, 16, 17, 18, 19, 20, 21, 22, 23, 24, 25, 26, 27]] := (rfl)
theorem pneed15_9 : ppol.need 15 9 = [0, 1, 2, 3, 4, 5, 6, 7, 8, 9, 10, 11, 14, 15, 16, 17, 18, 19, 20, 21, 22, 23, 24, 25] := (rfl)
theorem pwr15_9 : ppol.wr 15 9 = [38, 39, 40, 41, 42, 43, 44, 45, 46, 47, 48, 49, 50, 51, 52, 53, 54, 55, 56, 57, 58, 59, 60, 61, 62, 63, 64, 65] := (rfl)
theorem porder15_17 : ppol.orders 15 17 = [[0, 1, 2, 3, 4, 5, 6, 7, 8, 9, 10, 11, 12]] := (rfl)
theorem pneed15_17 : ppol.need 15 17 = [0, 1, 2, 3, 4, 5, 6, 7, 8, 9, 10, 11] := (rfl)
theorem pwr15_17 : ppol.wr 15 17 = [81, 82, 83, 84, 85, 86, 87, 88, 89, 90, 91, 92, 93] := (rfl)
theorem porder15_24 : ppol.orders 15 24 = [[0, 1, 2, 3, 4, 5, 6, 7, 8, 9, 10, 11, 12, 13, 14, 15, 16, 17, 18, 19]] := (rfl)
theorem pneed15_24 : ppol.need 15 24 = [0, 2, 3, 6, 7, 8, 9, 10, 11, 12, 13, 14, 15, 16, 17] := (rfl)
theorem pwr15_24 : ppol.wr 15 24 = [107, 108, 109, 110, 111, 112, 113, 114, 115, 116, 117, 118, 119, 120, 121, 122, 123, 124, 125, 126] := (rfl)
theorem porder15_26 : ppol.orders 15 26 = [[0, 1, 2, 3, 4, 5, 6, 7, 8, 9, 10, 11, 12, 13, 14, 15, 16, 17, 18, 19]] := (rfl)
theorem pneed15_26 : ppol.need 15 26 = [0, 1, 2, 3, 4, 5, 6, 7, 8, 9, 10, 11, 12, 13, 14, 15, 16, 17] := (rfl)
theorem pwr15_26 : ppol.wr 15 26 = [129, 130, 131, 132, 133, 134, 135, 136, 137, 138, 139, 140, 141, 142, 143, 144, 145, 146, 147] := (rfl)
theorem porder15_31 : ppol.orders 15 31 = [[0, 1, 2, 3, 4, 5, 6, 7, 8, 9, 10, 11, 12, 13, 14, 15, 16, 17, 18, 19]] := (rfl)
theorem pneed15_31 : ppol.need 15 31 = [0, 2, 3, 6, 7, 8, 9, 10, 11, 12, 13, 14, 15, 16, 17] := (rfl)
theorem pwr15_31 : ppol.wr 15 31 = [155, 156, 157, 158, 159, 160, 161, 162, 163, 164, 165, 166, 167, 168, 169, 170, 171, 172, 173, 174] := (rfl)
theorem porder15_33 : ppol.orders 15 33 = [[0, 1, 2, 3, 4, 5, 6, 7, 8, 9, 10, 11, 12, 13, 14, 15, 16, 17, 18, 19]] := (rfl)
theorem pneed15_33 : ppol.need 15 33 = [0, 1, 2, 3, 4, 5, 6, 7, 8, 9, 10, 11, 12, 13, 14, 15, 16, 17] := (rfl)
theorem pwr15_33 : ppol.wr 15 33 = [177, 178, 179, 180, 181, 182, 183, 184, 185, 186, 187, 188, 189, 190, 191, 192, 193, 194, 195] := (rfl)
theorem ptake16 (t : Nat) : ppol.take 16 t = ([14] : List Nat).contains t := (rfl)
theorem ploc16 (t : Nat) : ppol.loc 16 t = ([1] : List Nat).contains t := (rfl)
theorem pkeep16 : ppol.keep 16 = some [false, false, true, false, false, false, false, false, false, false, false, false, false, false, false, false, false, false, false, false, false, false, false, false, false, false, false, false, false] := (rfl)
theorem parr16 (t : Nat) : ppol.arr 16 t = 1 := (rfl)
theorem pfree16 : ppol.free 16 = false := (rfl)
theorem ptake17 (t : Nat) : ppol.take 17 t = ([] : List Nat).contains t := (rfl)
theorem ploc17 (t : Nat) : ppol.loc 17 t = ([1] : List Nat).contains t := (rfl)
theorem pkeep17 : ppol.keep 17 = none := (rfl)
theorem parr17 (t : Nat) : ppol.arr 17 t = 1 := (rfl)
theorem pfree17 : ppol.free 17 = false := (rfl)
theorem ptake18 (t : Nat) : ppol.take 18 t = ([] : List Nat).contains t := (rfl)
theorem ploc18 (t : Nat) : ppol.loc 18 t = ([1, 5, 7] : List Nat).contains t := (rfl)
theorem pkeep18 : ppol.keep 18 = some [false, true, false, true, true, false, true, false, false, false, false, false, false, false, false, false, false, false, false, false, false, false, false, false, false, false, false, false, false, false, false, false, false, false, false, false, false, false, false, false, false, false, false, false, false, false, false, false, false, false, false, false, false, false, false, false, false, false, false, false, false, false, false, false, false, false, false, false, false, false, false, false, false, false, false, false, false, false, false, false, false, false, false, false, false, false, false, false, false, false, false, false, false, false, false, false, false, false, false, false] := (rfl)
theorem parr18 (t : Nat) : ppol.arr 18 t = 1 := (rfl)
theorem pfree18 : ppol.free 18 = false := (rfl)
theorem porder18_15 : ppol.orders 18 15 = [[0, 1, 2, 3, 4, 5, 6, 7, 8, 9, 10, 11, 12, 13, 14, 15, 16, 17, 18, 19, 20, 21, 22, 23, 24, 25, 26, 27, 28, 29]] := (rfl)
theorem pneed18_15 : ppol.need 18 15 = [1, 6, 11, 18, 19, 20, 21, 22, 23, 24, 25, 26] := (rfl)
theorem pwr18_15 : ppol.wr 18 15 = [70, 71, 72, 73, 74, 75, 76, 77, 78, 79, 80, 81, 82, 83, 84, 85, 86, 87, 88, 89, 90, 91, 92, 93, 94, 95, 96, 97, 98, 99] := (rfl)
theorem ptake19 (t : Nat) : ppol.take 19 t = ([] : List Nat).contains t := (rfl)
theorem ploc19 (t : Nat) : ppol.loc 19 t = ([1] : List Nat).contains t := (rfl)
theorem pkeep19 : ppol.keep 19 = none := (rfl)
theorem parr19 (t : Nat) : ppol.arr 19 t = 1 := (rfl)
theorem pfree19 : ppol.free 19 = false := (rfl)
theorem ptake27 (t : Nat) : ppol.take 27 t = ([] : List Nat).contains t := (rfl)
theorem ploc27 (t : Nat) : ppol.loc 27 t = ([1] : List Nat).contains t := (rfl)
theorem pkeep27 : ppol.keep 27 = none := (rfl)
theorem parr27 (t : Nat) : ppol.arr 27 t = 1 := (rfl)
theorem pfree27 : ppol.free 27 = false := (rfl)
theorem ptake30 (t : Nat) : ppol.take 30 t = ([] : List Nat).contains t := (rfl)
theorem ploc30 (t : Nat) : ppol.loc 30 t = ([] : List Nat).contains t := (rfl)
theorem pkeep30 : ppol.keep 30 = none := (rfl)
theorem parr30 (t : Nat) : ppol.arr 30 t = 1 := (rfl)
theorem pfree30 : ppol.free 30 = false := (rfl)
theorem ptake32 (t : Nat) : ppol.take 32 t = ([] : List Nat).contains t := (rfl)
theorem ploc32 (t : Nat) : ppol.loc 32 t = ([] : List Nat).contains t := (rfl)
theorem pkeep32 : ppol.keep 32 = some [false, false, false, false, false, false, false, false, true, true, true, false, false, false, false, false, false, false] := (rfl)
theorem parr32 (t : Nat) : ppol.arr 32 t = 1 := (rfl)
theorem pfree32 : ppol.free 32 = false := (rfl)
theorem ptake36 (t : Nat) : ppol.take 36 t = ([] : List Nat).contains t := (rfl)
theorem ploc36 (t : Nat) : ppol.loc 36 t = ([] : List Nat).contains t := (rfl)
theorem pkeep36 : ppol.keep 36 = none := (rfl)
theorem parr36 (t : Nat) : ppol.arr 36 t = 1 := (rfl)
theorem pfree36 : ppol.free 36 = false := (rfl)
theorem ptake39 (t : Nat) : ppol.take 39 t = ([] : List Nat).contains t := (rfl)
theorem ploc39 (t : Nat) : ppol.loc 39 t = ([] : List Nat).contains t := (rfl)
theorem pkeep39 : ppol.keep 39 = none := (rfl)
theorem parr39 (t : Nat) : ppol.arr 39 t = 1 := (rfl)
theorem pfree39 : ppol.free 39 = false := (rfl)
theorem ptake41 (t : Nat) : ppol.take 41 t = ([] : List Nat).contains t := (rfl)
theorem ploc41 (t : Nat) : ppol.loc 41 t = ([1] : List Nat).contains t := (rfl)
theorem pkeep41 : ppol.keep 41 = none := (rfl)
theorem parr41 (t : Nat) : ppol.arr 41 t = 1 := (rfl)
theorem pfree41 : ppol.free 41 = false := (rfl)
theorem ptake42 (t : Nat) : ppol.take 42 t = ([] : List Nat).contains t := (rfl)
theorem ploc42 (t : Nat) : ppol.loc 42 t = ([] : List Nat).contains t := (rfl)
theorem pkeep42 : ppol.keep 42 = none := (rfl)
theorem parr42 (t : Nat) : ppol.arr 42 t = 1 := (rfl)
theorem pfree42 : ppol.free 42 = false := (rfl)
theorem ptake43 (t : Nat) : ppol.take 43 t = ([] : List Nat).contains t := (rfl)
theorem ploc43 (t : Nat) : ppol.loc 43 t = ([] : List Nat).contains t := (rfl)
theorem pkeep43 : ppol.keep 43 = none := (rfl)
theorem parr43 (t : Nat) : ppol.arr 43 t = 1 := (rfl)
theorem pfree43 : ppol.free 43 = false := (rfl)
theorem ptake44 (t : Nat) : ppol.take 44 t = ([31] : List Nat).contains t := (rfl)
theorem ploc44 (t : Nat) : ppol.loc 44 t = ([] : List Nat).contains t := (rfl)
theorem pkeep44 : ppol.keep 44 = some [true, false, false, true, false, false, true, false, false, true, true, true, false, false, false, false, false, false, false, false, false, false, false, false, false, true, true, true, false, false, false, false, false, false, false, false] := (rfl)
theorem parr44 (t : Nat) : ppol.arr 44 t = 2 := (rfl)
theorem pfree44 : ppol.free 44 = false := (rfl)
theorem ptake45 (t : Nat) : ppol.take 45 t = ([] : List Nat).contains t := (rfl)
theorem ploc45 (t : Nat) : ppol.loc 45 t = ([2, 3] : List Nat).contains t := (rfl)
theorem pkeep45 : ppol.keep 45 = none := (rfl)
theorem parr45 (t : Nat) : ppol.arr 45 t = 1 := (rfl)
theorem pfree45 : ppol.free 45 = false := (rfl)
theorem ptake46 (t : Nat) : ppol.take 46 t = ([] : List Nat).contains t := (rfl)
theorem ploc46 (t : Nat) : ppol.loc 46 t = ([] : List Nat).contains t := (rfl)
theorem pkeep46 : ppol.keep 46 = none := (rfl)
theorem parr46 (t : Nat) : ppol.arr 46 t = 1 := (rfl)
theorem pfree46 : ppol.free 46 = false := (rfl)
theorem ptake47 (t : Nat) : ppol.take 47 t = ([31] : List Nat).contains t := (rfl)
theorem ploc47 (t : Nat) : ppol.loc 47 t = ([] : List Nat).contains t := (rfl)
theorem pkeep47 : ppol.keep 47 = some [true, false, false, true, false, false, true, false, false, true, true, true, false, false, false, false, false, false, false, false, false, false, false, false, false, true, true, true, false, false, false, false, false, false, false, false] := (rfl)
theorem parr47 (t : Nat) : ppol.arr 47 t = 2 := (rfl)
theorem pfree47 : ppol.free 47 = false := (rfl)
theorem ptake48 (t : Nat) : ppol.take 48 t = ([] : List Nat).contains t := (rfl)
theorem ploc48 (t : Nat) : ppol.loc 48 t = ([2, 3] : List Nat).contains t := (rfl)
theorem pkeep48 : ppol.keep 48 = none := (rfl)
theorem parr48 (t : Nat) : ppol.arr 48 t = 1 := (rfl)
theorem pfree48 : ppol.free 48 = false := (rfl)
theorem ptake49 (t : Nat) : ppol.take 49 t = ([] : List Nat).contains t := (rfl)
theorem ploc49 (t : Nat) : ppol.loc 49 t = ([1, 2] : List Nat).contains t := (rfl)
theorem pkeep49 : ppol.keep 49 = some [false, true, true, false, false, false, false, false, false, false, false, false, false, false, true, true, false, false, false, false, false, false, false, false, false, false, false, false, false, false, false, false] := (rfl)
theorem parr49 (t : Nat) : ppol.arr 49 t = 1 := (rfl)
theorem pfree49 : ppol.free 49 = false := (rfl)
theorem porder49_1 : ppol.orders 49 1 = [[0, 1, 3, 4, 2, 6, 5, 7, 8, 9], [0, 1, 2, 3, 4, 5, 6, 7, 8, 9], [0, 1, 2, 3, 4, 5, 6, 7, 8, 9]] := (rfl)
theorem pneed49_1 : ppol.need 49 1 = [0, 1, 2, 3, 4] := (rfl)
theorem pwr49_1 : ppol.wr 49 1 = [4, 5, 6, 7, 8, 9, 10, 11] := (rfl)
theorem porder49_5 : ppol.orders 49 5 = [[0, 1, 2, 3, 4, 5, 6, 7, 8, 9, 10, 11, 12]] := (rfl)
theorem pneed49_5 : ppol.need 49 5 = [0, 1, 2, 3, 4, 5, 6, 7, 8, 9] := (rfl)
theorem pwr49_5 : ppol.wr 49 5 = [18, 19, 20, 21, 22, 23, 24, 25, 26, 27, 28, 29] := (rfl)
theorem ptake50 (t : Nat) : ppol.take 50 t = ([] : List Nat).contains t := (rfl)
theorem ploc50 (t : Nat) : ppol.loc 50 t = ([] : List Nat).contains t := (rfl)
theorem pkeep50 : ppol.keep 50 = none := (rfl)
theorem parr50 (t : Nat) : ppol.arr 50 t = 1 := (rfl)
theorem pfree50 : ppol.free 50 = false := (rfl)
theorem ptake51 (t : Nat) : ppol.take 51 t = ([] : List Nat).contains t := (rfl)
theorem ploc51 (t : Nat) : ppol.loc 51 t = ([2, 3] : List Nat).contains t := (rfl)
theorem pkeep51 : ppol.keep 51 = none := (rfl)
theorem parr51 (t : Nat) : ppol.arr 51 t = 1 := (rfl)
theorem pfree51 : ppol.free 51 = false := (rfl)
theorem ptake52 (t : Nat) : ppol.take 52 t = ([] : List Nat).contains t := (rfl)
theorem ploc52 (t : Nat) : ppol.loc 52 t = ([] : List Nat).contains t := (rfl)
theorem pkeep52 : ppol.keep 52 = some [true, false, false, true, false, false, false, false, false, false, false, false, false, false, false, false, false, false, false, false, false, false, false, false, false, false, false, false, false, false, false, false, false, false, false, false, false, false, false, false, false, false, false, false, false, false, false, false, false, false, false, false, false, false, false, false, false, false, false, false, false, false] := (rfl)
theorem parr52 (t : Nat) : ppol.arr 52 t = 1 := (rfl)
theorem pfree52 : ppol.free 52 = false := (rfl)
theorem ptake53 (t : Nat) : ppol.take 53 t = ([] : List Nat).contains t := (rfl)
theorem ploc53 (t : Nat) : ppol.loc 53 t = ([4] : List Nat).contains t := (rfl)
theorem pkeep53 : ppol.keep 53 = some [true, false, false, false, false, true, true, true, false, false, false, false, false, false, false, false, false, false, false, false] := (rfl)
theorem parr53 (t : Nat) : ppol.arr 53 t = 1 := (rfl)
theorem pfree53 : ppol.free 53 = false := (rfl)
theorem porder53_3 : ppol.orders 53 3 = [[0, 1, 2, 3, 4, 5, 6, 7]] := (rfl)
theorem pneed53_3 : ppol.need 53 3 = [0, 1, 2, 3, 4, 5] := (rfl)
theorem pwr53_3 : ppol.wr 53 3 = [11, 12, 13, 14, 15, 16, 17, 18] := (rfl)
theorem ptake58 (t : Nat) : ppol.take 58 t = ([] : List Nat).contains t := (rfl)
theorem ploc58 (t : Nat) : ppol.loc 58 t = ([] : List Nat).contains t := (rfl)
theorem pkeep58 : ppol.keep 58 = none := (rfl)
theorem parr58 (t : Nat) : ppol.arr 58 t = 1 := (rfl)
theorem pfree58 : ppol.free 58 = false := (rfl)
theorem ptake62 (t : Nat) : ppol.take 62 t = ([] : List Nat).contains t := (rfl)
theorem ploc62 (t : Nat) : ppol.loc 62 t = ([] : List Nat).contains t := (rfl)
theorem pkeep62 : ppol.keep 62 = none := (rfl)
theorem parr62 (t : Nat) : ppol.arr 62 t = 1 := (rfl)
theorem pfree62 : ppol.free 62 = false := (rfl)
theorem ptake63 (t : Nat) : ppol.take 63 t = ([] : List Nat).contains t := (rfl)
theorem ploc63 (t : Nat) : ppol.loc 63 t = ([] : List Nat).contains t := (rfl)
theorem pkeep63 : ppol.keep 63 = none := (rfl)
theorem parr63 (t : Nat) : ppol.arr 63 t = 1 := (rfl)
theorem pfree63 : ppol.free 63 = false := (rfl)
theorem ptake64 (t : Nat) : ppol.take 64 t = ([] : List Nat).contains t := (rfl)
theorem ploc64 (t : Nat) : ppol.loc 64 t = ([] : List Nat).contains t := (rfl)
theorem pkeep64 : ppol.keep 64 = none := (rfl)
theorem parr64 (t : Nat) : ppol.arr 64 t = 1 := (rfl)
theorem pfree64 : ppol.free 64 = false := (rfl)
theorem ptake65 (t : Nat) : ppol.take 65 t = ([] : List Nat).contains t := (rfl)
theorem ploc65 (t : Nat) : ppol.loc 65 t = ([2] : List Nat).contains t := (rfl)
theorem pkeep65 : ppol.keep 65 = none := (rfl)
theorem parr65 (t : Nat) : ppol.arr 65 t = 1 := (rfl)
theorem pfree65 : ppol.free 65 = false := (rfl)
theorem ptake66 (t : Nat) : ppol.take 66 t = ([] : List Nat).contains t := (rfl)
theorem ploc66 (t : Nat) : ppol.loc 66 t = ([3] : List Nat).contains t := (rfl)
theorem pkeep66 : ppol.keep 66 = some [true, false, false, false, false, true, true, true, false, false, false, false, false, false, false, false, false, false, false, false, false, false, false, false, false, false, false, false, false, false, false, false, false, false, false, false, false, false, false, false, false, false, false] := (rfl)
theorem parr66 (t : Nat) : ppol.arr 66 t = 1 := (rfl)
theorem pfree66 : ppol.free 66 = false := (rfl)
theorem porder66_4 : ppol.orders 66 4 = [[0, 1, 2, 3, 4, 5, 6, 7, 8, 9, 10, 11, 12, 13, 14, 15, 16, 17, 18, 19, 20, 21, 22, 23, 24, 25, 26, 27, 28, 29]] := (rfl)
theorem pneed66_4 : ppol.need 66 4 = [1, 6, 11, 18, 19, 20, 21, 22, 23, 24, 25, 26] := (rfl)
theorem pwr66_4 : ppol.wr 66 4 = [12, 13, 14, 15, 16, 17, 18, 19, 20, 21, 22, 23, 24, 25, 26, 27, 28, 29, 30, 31, 32, 33, 34, 35, 36, 37, 38, 39, 40, 41] := (rfl)
theorem ptake67 (t : Nat) : ppol.take 67 t = ([] : List Nat).contains t := (rfl)
theorem ploc67 (t : Nat) : ppol.loc 67 t = ([] : List Nat).contains t := (rfl)
theorem pkeep67 : ppol.keep 67 = none := (rfl)
theorem parr67 (t : Nat) : ppol.arr 67 t = 1 := (rfl)
theorem pfree67 : ppol.free 67 = false := (rfl)
theorem ptake68 (t : Nat) : ppol.take 68 t = ([] : List Nat).contains t := (rfl)
theorem ploc68 (t : Nat) : ppol.loc 68 t = ([] : List Nat).contains t := (rfl)
theorem pkeep68 : ppol.keep 68 = none := (rfl)
theorem parr68 (t : Nat) : ppol.arr 68 t = 1 := (rfl)
theorem pfree68 : ppol.free 68 = false := (rfl)
theorem ptake69 (t : Nat) : ppol.take 69 t = ([] : List Nat).contains t := (rfl)
theorem ploc69 (t : Nat) : ppol.loc 69 t = ([] : List Nat).contains t := (rfl)
theorem pkeep69 : ppol.keep 69 = none := (rfl)
theorem parr69 (t : Nat) : ppol.arr 69 t = 1 := (rfl)
theorem pfree69 : ppol.free 69 = false := (rfl)
theorem ptake70 (t : Nat) : ppol.take 70 t = ([17] : List Nat).contains t := (rfl)
theorem ploc70 (t : Nat) : ppol.loc 70 t = ([] : List Nat).contains t := (rfl)
theorem pkeep70 : ppol.keep 70 = none := (rfl)
theorem parr70 (t : Nat) : ppol.arr 70 t = 2 := (rfl)
theorem pfree70 : ppol.free 70 = false := (rfl)
theorem ptake71 (t : Nat) : ppol.take 71 t = ([] : List Nat).contains t := (rfl)
theorem ploc71 (t : Nat) : ppol.loc 71 t = ([] : List Nat).contains t := (rfl)
theorem pkeep71 : ppol.keep 71 = none := (rfl)
theorem parr71 (t : Nat) : ppol.arr 71 t = 1 := (rfl)
theorem pfree71 : ppol.free 71 = false := (rfl)
theorem ptake72 (t : Nat) : ppol.take 72 t = ([] : List Nat).contains t := (rfl)
theorem ploc72 (t : Nat) : ppol.loc 72 t = ([] : List Nat).contains t := (rfl)
theorem pkeep72 : ppol.keep 72 = none := (rfl)
theorem parr72 (t : Nat) : ppol.arr 72 t = 1 := (rfl)
theorem pfree72 : ppol.free 72 = false := (rfl)
theorem ptake73 (t : Nat) : ppol.take 73 t = ([] : List Nat).contains t := (rfl)
theorem ploc73 (t : Nat) : ppol.loc 73 t = ([] : List Nat).contains t := (rfl)
theorem pkeep73 : ppol.keep 73 = none := (rfl)
theorem parr73 (t : Nat) : ppol.arr 73 t = 1 := (rfl)
theorem pfree73 : ppol.free 73 = false := (rfl)
theorem ptake74 (t : Nat) : ppol.take 74 t = ([17] : List Nat).contains t := (rfl)
theorem ploc74 (t : Nat) : ppol.loc 74 t = ([] : List Nat).contains t := (rfl)
theorem pkeep74 : ppol.keep 74 = none := (rfl)
theorem parr74 (t : Nat) : ppol.arr 74 t = 2 := (rfl)
theorem pfree74 : ppol.free 74 = false := (rfl)
theorem ptake75 (t : Nat) : ppol.take 75 t = ([] : List Nat).contains t := (rfl)
theorem ploc75 (t : Nat) : ppol.loc 75 t = ([] : List Nat).contains t := (rfl)
theorem pkeep75 : ppol.keep 75 = none := (rfl)
theorem parr75 (t : Nat) : ppol.arr 75 t = 1 := (rfl)
theorem pfree75 : ppol.free 75 = false := (rfl)
theorem ptake76 (t : Nat) : ppol.take 76 t = ([] : List Nat).contains t := (rfl)
theorem ploc76 (t : Nat) : ppol.loc 76 t = ([] : List Nat).contains t := (rfl)
theorem pkeep76 : ppol.keep 76 = none := (rfl)
theorem parr76 (t : Nat) : ppol.arr 76 t = 2 := (rfl)
theorem pfree76 : ppol.free 76 = false := (rfl)
theorem ptake77 (t : Nat) : ppol.take 77 t = ([] : List Nat).contains t := (rfl)
theorem ploc77 (t : Nat) : ppol.loc 77 t = ([] : List Nat).contains t := (rfl)
theorem pkeep77 : ppol.keep 77 = none := (rfl)
theorem parr77 (t : Nat) : ppol.arr 77 t = 2 := (rfl)
theorem pfree77 : ppol.free 77 = false := (rfl)
theorem ptake78 (t : Nat) : ppol.take 78 t = ([] : List Nat).contains t := (rfl)
theorem ploc78 (t : Nat) : ppol.loc 78 t = ([] : List Nat).contains t := (rfl)
theorem pkeep78 : ppol.keep 78 = none := (rfl)
theorem parr78 (t : Nat) : ppol.arr 78 t = 1 := (rfl)
theorem pfree78 : ppol.free 78 = false := (rfl)
theorem ptake79 (t : Nat) : ppol.take 79 t = ([] : List Nat).contains t := (rfl)
theorem ploc79 (t : Nat) : ppol.loc 79 t = ([] : List Nat).contains t := (rfl)
theorem pkeep79 : ppol.keep 79 = some [true, false, false, true, false, false, false, false, false, false, false, false, false] := (rfl)
theorem parr79 (t : Nat) : ppol.arr 79 t = 1 := (rfl)
theorem pfree79 : ppol.free 79 = false := (rfl)
theorem ptake80 (t : Nat) : ppol.take 80 t = ([] : List Nat).contains t := (rfl)
theorem ploc80 (t : Nat) : ppol.loc 80 t = ([] : List Nat).contains t := (rfl)
theorem pkeep80 : ppol.keep 80 = none := (rfl)
theorem parr80 (t : Nat) : ppol.arr 80 t = 1 := (rfl)
theorem pfree80 : ppol.free 80 = false := (rfl)
theorem ptake81 (t : Nat) : ppol.take 81 t = ([] : List Nat).contains t := (rfl)
theorem ploc81 (t : Nat) : ppol.loc 81 t = ([] : List Nat).contains t := (rfl)
theorem pkeep81 : ppol.keep 81 = none := (rfl)
theorem parr81 (t : Nat) : ppol.arr 81 t = 1 := (rfl)
theorem pfree81 : ppol.free 81 = false := (rfl)
theorem ptake82 (t : Nat) : ppol.take 82 t = ([] : List Nat).contains t := (rfl)
theorem ploc82 (t : Nat) : ppol.loc 82 t = ([] : List Nat).contains t := (rfl)
theorem pkeep82 : ppol.keep 82 = some [true, true, false, false, false, false, false, true, true, false, false, false, false, false, false, false, false, false, false] := (rfl)
theorem parr82 (t : Nat) : ppol.arr 82 t = 1 := (rfl)
theorem pfree82 : ppol.free 82 = false := (rfl)
theorem ptake83 (t : Nat) : ppol.take 83 t = ([] : List Nat).contains t := (rfl)
theorem ploc83 (t : Nat) : ppol.loc 83 t = ([] : List Nat).contains t := (rfl)
theorem pkeep83 : ppol.keep 83 = none := (rfl)
theorem parr83 (t : Nat) : ppol.arr 83 t = 1 := (rfl)
theorem pfree83 : ppol.free 83 = false := (rfl)
theorem ptake84 (t : Nat) : ppol.take 84 t = ([] : List Nat).contains t := (rfl)
theorem ploc84 (t : Nat) : ppol.loc 84 t = ([] : List Nat).contains t := (rfl)
theorem pkeep84 : ppol.keep 84 = none := (rfl)
theorem parr84 (t : Nat) : ppol.arr 84 t = 1 := (rfl)
theorem pfree84 : ppol.free 84 = false := (rfl)
theorem ptake85 (t : Nat) : ppol.take 85 t = ([] : List Nat).contains t := (rfl)
theorem ploc85 (t : Nat) : ppol.loc 85 t = ([] : List Nat).contains t := (rfl)
theorem pkeep85 : ppol.keep 85 = none := (rfl)
theorem parr85 (t : Nat) : ppol.arr 85 t = 1 := (rfl)
theorem pfree85 : ppol.free 85 = false := (rfl)
theorem ptake86 (t : Nat) : ppol.take 86 t = ([] : List Nat).contains t := (rfl)
theorem ploc86 (t : Nat) : ppol.loc 86 t = ([] : List Nat).contains t := (rfl)
theorem pkeep86 : ppol.keep 86 = none := (rfl)
theorem parr86 (t : Nat) : ppol.arr 86 t = 1 := (rfl)
theorem pfree86 : ppol.free 86 = false := (rfl)
theorem ptake87 (t : Nat) : ppol.take 87 t = ([] : List Nat).contains t := (rfl)
theorem ploc87 (t : Nat) : ppol.loc 87 t = ([6] : List Nat).contains t := (rfl)
theorem pkeep87 : ppol.keep 87 = some [true, false, false, false, true, false, false, true, true, false, false, false, false, false, false, false, false, false, false, false, false, false, false, false, false] := (rfl)
theorem parr87 (t : Nat) : ppol.arr 87 t = 1 := (rfl)
theorem pfree87 : ppol.free 87 = false := (rfl)
theorem ptake88 (t : Nat) : ppol.take 88 t = ([] : List Nat).contains t := (rfl)
theorem ploc88 (t : Nat) : ppol.loc 88 t = ([] : List Nat).contains t := (rfl)
theorem pkeep88 : ppol.keep 88 = none := (rfl)
theorem parr88 (t : Nat) : ppol.arr 88 t = 1 := (rfl)
theorem pfree88 : ppol.free 88 = false := (rfl)
theorem ptake89 (t : Nat) : ppol.take 89 t = ([] : List Nat).contains t := (rfl)
theorem ploc89 (t : Nat) : ppol.loc 89 t = ([] : List Nat).contains t := (rfl)
theorem pkeep89 : ppol.keep 89 = none := (rfl)
theorem parr89 (t : Nat) : ppol.arr 89 t = 1 := (rfl)
theorem pfree89 : ppol.free 89 = false := (rfl)
theorem ptake90 (t : Nat) : ppol.take 90 t = ([] : List Nat).contains t := (rfl)
theorem ploc90 (t : Nat) : ppol.loc 90 t = ([4] : List Nat).contains t := (rfl)
theorem pkeep90 : ppol.keep 90 = some [true, false, false, false, false, true, true, true, false, false, false, false, false, false, false, false] := (rfl)
theorem parr90 (t : Nat) : ppol.arr 90 t = 1 := (rfl)
theorem pfree90 : ppol.free 90 = false := (rfl)
theorem ptake91 (t : Nat) : ppol.take 91 t = ([] : List Nat).contains t := (rfl)
theorem ploc91 (t : Nat) : ppol.loc 91 t = ([] : List Nat).contains t := (rfl)
theorem pkeep91 : ppol.keep 91 = none := (rfl)
theorem parr91 (t : Nat) : ppol.arr 91 t = 1 := (rfl)
theorem pfree91 : ppol.free 91 = false := (rfl)
theorem ptake92 (t : Nat) : ppol.take 92 t = ([] : List Nat).contains t := (rfl)
theorem ploc92 (t : Nat) : ppol.loc 92 t = ([] : List Nat).contains t := (rfl)
theorem pkeep92 : ppol.keep 92 = none := (rfl)
theorem parr92 (t : Nat) : ppol.arr 92 t = 1 := (rfl)
theorem pfree92 : ppol.free 92 = false := (rfl)
theorem ptake93 (t : Nat) : ppol.take 93 t = ([] : List Nat).contains t := (rfl)
theorem ploc93 (t : Nat) : ppol.loc 93 t = ([] : List Nat).contains t := (rfl)
theorem pkeep93 : ppol.keep 93 = none := (rfl)
theorem parr93 (t : Nat) : ppol.arr 93 t = 1 := (rfl)
theorem pfree93 : ppol.free 93 = false := (rfl)
theorem ptake94 (t : Nat) : ppol.take 94 t = ([] : List Nat).contains t := (rfl)
theorem ploc94 (t : Nat) : ppol.loc 94 t = ([4] : List Nat).contains t := (rfl)
theorem pkeep94 : ppol.keep 94 = some [true, false, false, false, false, true, true, true, false, false, false, false, false, false, false, false] := (rfl)
theorem parr94 (t : Nat) : ppol.arr 94 t = 1 := (rfl)
theorem pfree94 : ppol.free 94 = false := (rfl)
theorem ptake95 (t : Nat) : ppol.take 95 t = ([] : List Nat).contains t := (rfl)
theorem ploc95 (t : Nat) : ppol.loc 95 t = ([] : List Nat).contains t := (rfl)
theorem pkeep95 : ppol.keep 95 = none := (rfl)
theorem parr95 (t : Nat) : ppol.arr 95 t = 1 := (rfl)
theorem pfree95 : ppol.free 95 = false := (rfl)
theorem ptake97 (t : Nat) : ppol.take 97 t = ([] : List Nat).contains t := (rfl)
theorem ploc97 (t : Nat) : ppol.loc 97 t = ([] : List Nat).contains t := (rfl)
theorem pkeep97 : ppol.keep 97 = some [false, true, true, false, false, false, false, false, false, false, true, false, false, false, false, false, false, false, false, false, false] := (rfl)
theorem parr97 (t : Nat) : ppol.arr 97 t = 1 := (rfl)
theorem pfree97 : ppol.free 97 = false := (rfl)
theorem ptake98 (t : Nat) : ppol.take 98 t = ([] : List Nat).contains t := (rfl)
theorem ploc98 (t : Nat) : ppol.loc 98 t = ([] : List Nat).contains t := (rfl)
theorem pkeep98 : ppol.keep 98 = some [true, true, false, false, false, false, false, true, true, false, false, false, false, false, false, false, false, false, false] := (rfl)
theorem parr98 (t : Nat) : ppol.arr 98 t = 1 := (rfl)
theorem pfree98 : ppol.free 98 = false := (rfl)
theorem ptake100 (t : Nat) : ppol.take 100 t = ([8] : List Nat).contains t := (rfl)
theorem ploc100 (t : Nat) : ppol.loc 100 t = ([5] : List Nat).contains t := (rfl)
theorem pkeep100 : ppol.keep 100 = some [false, false, true, false, false, false, false, false, false, false, false, false, false] := (rfl)
theorem parr100 (t : Nat) : ppol.arr 100 t = 2 := (rfl)
theorem pfree100 : ppol.free 100 = false := (rfl)
theorem ptake101 (t : Nat) : ppol.take 101 t = ([] : List Nat).contains t := (rfl)
theorem ploc101 (t : Nat) : ppol.loc 101 t = ([] : List Nat).contains t := (rfl)
theorem pkeep101 : ppol.keep 101 = some [true, true, true, false, false, false, true, true, true, false, false, false, false, false, false, false, false, false, false, false, false, false, false, false, false, false, false, false, false, false, false, false, false, false, false, false, false, false, false, false, false, false, false, false, false, false, false, false, false, false, false, false, false, false, false, false, false, false, false, false, false, false, false] := (rfl)
theorem parr101 (t : Nat) : ppol.arr 101 t = 1 := (rfl)
theorem pfree101 : ppol.free 101 = false := (rfl)
theorem ptake102 (t : Nat) : ppol.take 102 t = ([8] : List Nat).contains t := (rfl)
theorem ploc102 (t : Nat) : ppol.loc 102 t = ([5] : List Nat).contains t := (rfl)
theorem pkeep102 : ppol.keep 102 = some [false, false, true, false, false, false, false, false, false, false, false, false, false] := (rfl)
theorem parr102 (t : Nat) : ppol.arr 102 t = 2 := (rfl)
theorem pfree102 : ppol.free 102 = false := (rfl)
theorem ptake103 (t : Nat) : ppol.take 103 t = ([] : List Nat).contains t := (rfl)
theorem ploc103 (t : Nat) : ppol.loc 103 t = ([] : List Nat).contains t := (rfl)
theorem pkeep103 : ppol.keep 103 = some [true, true, true, false, false, false, true, true, true, false, false, false, false, false, false, false, false, false, false, false, false, false, false, false, false, false, false, false, false, false, false, false, false, false, false, false, false, false, false, false, false, false, false, false, false, false, false, false, false, false, false, false, false, false, false, false, false, false, false, false, false, false, false] := (rfl)
theorem parr103 (t : Nat) : ppol.arr 103 t = 1 := (rfl)
theorem pfree103 : ppol.free 103 = false := (rfl)
theorem ptake104 (t : Nat) : ppol.take 104 t = ([] : List Nat).contains t := (rfl)
theorem ploc104 (t : Nat) : ppol.loc 104 t = ([] : List Nat).contains t := (rfl)
theorem pkeep104 : ppol.keep 104 = some [true, true, true, true, false, false, false, false, true, true, false, false, false, false, false, false, false, false, false, false, false, false, false, false, false, false, false, false, false, false, false, false, false, false, false, false, false, false, false, false, false, false, false, false, false, false, false, false, false, false, false, false, false] := (rfl)
theorem parr104 (t : Nat) : ppol.arr 104 t = 1 := (rfl)
theorem pfree104 : ppol.free 104 = false := (rfl)
theorem porder104_4 : ppol.orders 104 4 = [[0, 1, 2, 3, 4, 5, 6, 7, 8, 9, 10, 11, 12, 13, 14, 15, 16]] := (rfl)
theorem pneed104_4 : ppol.need 104 4 = [4, 5, 6, 7, 8, 9, 10, 11, 12, 13] := (rfl)
theorem pwr104_4 : ppol.wr 104 4 = [18, 19, 20, 21, 22, 23, 24, 25, 26, 27, 28, 29, 30, 31, 32, 33, 34] := (rfl)
theorem porder104_6 : ppol.orders 104 6 = [[0, 1, 2, 3, 4, 5, 6, 7, 8, 9, 10, 11, 12, 13, 14, 15, 16, 17], [0, 1, 2, 3, 4, 5, 6, 7, 8, 9, 10, 11, 12, 13, 14, 15, 16, 17], [0, 1, 5, 6, 7, 8, 9, 10, 11, 12, 13, 14, 15, 2, 3, 4, 16, 17]] := (rfl)
theorem pneed104_6 : ppol.need 104 6 = [0, 1, 2, 3, 4, 5, 6, 7, 8, 9, 10, 11, 12, 13] := (rfl)
theorem pwr104_6 : ppol.wr 104 6 = [37, 38, 39, 40, 41, 42, 43, 44, 45, 46, 47, 48, 49, 50, 51, 52] := (rfl)
theorem ptake105 (t : Nat) : ppol.take 105 t = ([] : List Nat).contains t := (rfl)
theorem ploc105 (t : Nat) : ppol.loc 105 t = ([] : List Nat).contains t := (rfl)
theorem pkeep105 : ppol.keep 105 = some [true, true, true, true, true, false, false, false, false, false, true, true, false, true, true, true, false, true, true, true, true, true, true, false, false, false, false, false, false, false, false, false, false, false, false, false, false, false, false, false, false, false, false, false, false, false, false, false, false, false, false, false, false, false, false, false, false, false, false, false, false, false, false, false, false, false, false, false, false, false, false, false, false, false, false, false, false, false, false, false, false, false, false, false, false, false, false, false, false, false, false, false, false, false, false, false, false, false, false, false, false, false, false, false, false, false, false, false, false, false, false, false, false, false, false, false, false, false, false, false, false, false, false, false, false, false, false, false, false, false, false, false, false, false, false, false, false, false, false, false, false, false, false, false, false, false, false, false, false, false, false, false, false, false, false, false, false, false, false, false, false, false, false, false, false, false, false, false, false, false, false, false, false, false, false, false, false, false, false, false, false, false, false, false, false, false, false, false, false, false, false, false, false, false, false, false, false, false, false, false, false, false, false, false, false, false, false, false, false, false, false, false, false, false, false, false, false, false, false, false] := (rfl)
theorem parr105 (t : Nat) : ppol.arr 105 t = 1 := (rfl)
theorem pfree105 : ppol.free 105 = false := (rfl)
theorem porder105_5 : ppol.orders 105 5 = [[0, 1, 2, 3, 4, 5, 6, 7, 8, 9, 10]] := (rfl)
theorem pneed105_5 : ppol.need 105 5 = [0, 1, 2, 3, 4, 5, 6, 7, 8] := (rfl)
theorem pwr105_5 : ppol.wr 105 5 = [40, 41, 42, 43, 44, 45, 46, 47, 48, 49, 50] := (rfl)
theorem porder105_11 : ppol.orders 105 11 = [[0, 1, 2, 3, 4, 5, 6, 7, 8, 9, 10, 11, 12, 13, 14, 15, 16, 17], [0, 1, 2, 3, 4, 5, 6, 7, 8, 9, 10, 11, 12, 13, 14, 15, 16, 17], [0, 1, 5, 6, 7, 8, 9, 10, 11, 12, 13, 14, 15, 2, 3, 4, 16, 17]] := (rfl)
theorem pneed105_11 : ppol.need 105 11 = [0, 1, 2, 3, 4, 5, 6, 7, 8, 9, 10, 11, 12, 13] := (rfl)
theorem pwr105_11 : ppol.wr 105 11 = [61, 62, 63, 64, 65, 66, 67, 68, 69, 70, 71, 72, 73, 74, 75, 76] := (rfl)
theorem porder105_17 : ppol.orders 105 17 = [[0, 1, 2, 3, 4, 5, 6, 7, 8, 9, 10, 11]] := (rfl)
theorem pneed105_17 : ppol.need 105 17 = [0, 1, 2, 3, 4, 5, 6, 7, 8] := (rfl)
theorem pwr105_17 : ppol.wr 105 17 = [92, 93, 94, 95, 96, 97, 98, 99, 100, 101, 102, 103] := (rfl)
theorem porder105_23 : ppol.orders 105 23 = [[0, 1, 2, 3, 4, 5, 6, 7, 8, 9, 10, 11, 12, 13, 14, 15, 16, 17], [0, 1, 2, 3, 4, 5, 6, 7, 8, 9, 10, 11, 12, 13, 14, 15, 16, 17], [0, 1, 5, 6, 7, 8, 9, 10, 11, 12, 13, 14, 15, 2, 3, 4, 16, 17]] := (rfl)
theorem pneed105_23 : ppol.need 105 23 = [0, 1, 2, 3, 4, 5, 6, 7, 8, 9, 10, 11, 12, 13] := (rfl)
theorem pwr105_23 : ppol.wr 105 23 = [113, 114, 115, 116, 117, 118, 119, 120, 121, 122, 123, 124, 125, 126, 127, 128] := (rfl)
theorem porder105_35 : ppol.orders 105 35 = [[0, 1, 2, 3, 4, 5, 6, 7, 8, 9, 10, 11, 12, 13]] := (rfl)
theorem pneed105_35 : ppol.need 105 35 = [0, 1, 2, 3, 4, 5, 6, 7, 8, 9, 10] := (rfl)
theorem pwr105_35 : ppol.wr 105 35 = [158, 159, 160, 161, 162, 163, 164, 165, 166, 167, 168, 169, 170, 171] := (rfl)
theorem ptake106 (t : Nat) : ppol.take 106 t = ([] : List Nat).contains t := (rfl)
theorem ploc106 (t : Nat) : ppol.loc 106 t = ([] : List Nat).contains t := (rfl)
theorem pkeep106 : ppol.keep 106 = some [true, true, true, true, false, false, false, false, true, true, false, false, false, false, false, false, false, false, false, false, false, false, false, false, false, false, false, false, false, false, false, false, false, false, false, false, false, false, false, false, false, false, false, false, false, false, false, false, false, false, false, false, false] := (rfl)
theorem parr106 (t : Nat) : ppol.arr 106 t = 1 := (rfl)
theorem pfree106 : ppol.free 106 = false := (rfl)
theorem porder106_4 : ppol.orders 106 4 = [[0, 1, 2, 3, 4, 5, 6, 7, 8, 9, 10, 11, 12, 13, 14, 15, 16]] := (rfl)
theorem pneed106_4 : ppol.need 106 4 = [4, 5, 6, 7, 8, 9, 10, 11, 12, 13] := (rfl)
theorem pwr106_4 : ppol.wr 106 4 = [18, 19, 20, 21, 22, 23, 24, 25, 26, 27, 28, 29, 30, 31, 32, 33, 34] := (rfl)
theorem porder106_6 : ppol.orders 106 6 = [[0, 1, 2, 3, 4, 5, 6, 7, 8, 9, 10, 11, 12, 13, 14, 15, 16, 17], [0, 1, 2, 3, 4, 5, 6, 7, 8, 9, 10, 11, 12, 13, 14, 15, 16, 17], [0, 1, 5, 6, 7, 8, 9, 10, 11, 12, 13, 14, 15, 2, 3, 4, 16, 17]] := (rfl)
theorem pneed106_6 : ppol.need 106 6 = [0, 1, 2, 3, 4, 5, 6, 7, 8, 9, 10, 11, 12, 13] := (rfl)
theorem pwr106_6 : ppol.wr 106 6 = [37, 38, 39, 40, 41, 42, 43, 44, 45, 46, 47, 48, 49, 50, 51, 52] := (rfl)
theorem ptake107 (t : Nat) : ppol.take 107 t = ([] : List Nat).contains t := (rfl)
theorem ploc107 (t : Nat) : ppol.loc 107 t = ([] : List Nat).contains t := (rfl)
theorem pkeep107 : ppol.keep 107 = some [true, true, true, true, true, false, false, false, false, false, true, true, false, true, true, true, false, true, true, true, true, true, true, false, false, false, false, false, false, false, false, false, false, false, false, false, false, false, false, false, false, false, false, false, false, false, false, false, false, false, false, false, false, false, false, false, false, false, false, false, false, false, false, false, false, false, false, false, false, false, false, false, false, false, false, false, false, false, false, false, false, false, false, false, false, false, false, false, false, false, false, false, false, false, false, false, false, false, false, false, false, false, false, false, false, false, false, false, false, false, false, false, false, false, false, false, false, false, false, false, false, false, false, false, false, false, false, false, false, false, false, false, false, false, false, false, false, false, false, false, false, false, false, false, false, false, false, false, false, false, false, false, false, false, false, false, false, false, false, false, false, false, false, false, false, false, false, false, false, false, false, false, false, false, false, false, false, false, false, false, false, false, false, false, false, false, false, false, false, false, false, false, false, false, false, false, false, false, false, false, false, false, false, false, false, false, false, false, false, false, false, false, false, false, false, false, false, false, false, false] := (rfl)
theorem parr107 (t : Nat) : ppol.arr 107 t = 1 := (rfl)
theorem pfree107 : ppol.free 107 = false := (rfl)
theorem porder107_5 : ppol.orders 107 5 = [[0, 1, 2, 3, 4, 5, 6, 7, 8, 9, 10]] := (rfl)
theorem pneed107_5 : ppol.need 107 5 = [0, 1, 2, 3, 4, 5, 6, 7, 8] := (rfl)
theorem pwr107_5 : ppol.wr 107 5 = [40, 41, 42, 43, 44, 45, 46, 47, 48, 49, 50] := (rfl)
theorem porder107_11 : ppol.orders 107 11 = [[0, 1, 2, 3, 4, 5, 6, 7, 8, 9, 10, 11, 12, 13, 14, 15, 16, 17], [0, 1, 2, 3, 4, 5, 6, 7, 8, 9, 10, 11, 12, 13, 14, 15, 16, 17], [0, 1, 5, 6, 7, 8, 9, 10, 11, 12, 13, 14, 15, 2, 3, 4, 16, 17]] := (rfl)
theorem pneed107_11 : ppol.need 107 11 = [0, 1, 2, 3, 4, 5, 6, 7, 8, 9, 10, 11, 12, 13] := (rfl)
theorem pwr107_11 : ppol.wr 107 11 = [61, 62, 63, 64, 65, 66, 67, 68, 69, 70, 71, 72, 73, 74, 75, 76] := (rfl)
theorem porder107_17 : ppol.orders 107 17 = [[0, 1, 2, 3, 4, 5, 6, 7, 8, 9, 10, 11]] := (rfl)
theorem pneed107_17 : ppol.need 107 17 = [0, 1, 2, 3, 4, 5, 6, 7, 8] := (rfl)
theorem pwr107_17 : ppol.wr 107 17 = [92, 93, 94, 95, 96, 97, 98, 99, 100, 101, 102, 103] := (rfl)
theorem porder107_23 : ppol.orders 107 23 = [[0, 1, 2, 3, 4, 5, 6, 7, 8, 9, 10, 11, 12, 13, 14, 15, 16, 17], [0, 1, 2, 3, 4, 5, 6, 7, 8, 9, 10, 11, 12, 13, 14, 15, 16, 17], [0, 1, 5, 6, 7, 8, 9, 10, 11, 12, 13, 14, 15, 2, 3, 4, 16, 17]] := (rfl)
theorem pneed107_23 : ppol.need 107 23 = [0, 1, 2, 3, 4, 5, 6, 7, 8, 9, 10, 11, 12, 13] := (rfl)
theorem pwr107_23 : ppol.wr 107 23 = [113, 114, 115, 116, 117, 118, 119, 120, 121, 122, 123, 124, 125, 126, 127, 128] := (rfl)
theorem porder107_35 : ppol.orders 107 35 = [[0, 1, 2, 3, 4, 5, 6, 7, 8, 9, 10, 11, 12, 13]] := (rfl)
theorem pneed107_35 : ppol.need 107 35 = [0, 1, 2, 3, 4, 5, 6, 7, 8, 9, 10] := (rfl)
theorem pwr107_35 : ppol.wr 107 35 = [158, 159, 160, 161, 162, 163, 164, 165, 166, 167, 168, 169, 170, 171] := (rfl)
theorem ptake108 (t : Nat) : ppol.take 108 t = ([] : List Nat).contains t := (rfl)
theorem ploc108 (t : Nat) : ppol.loc 108 t = ([] : List Nat).contains t := (rfl)
theorem pkeep108 : ppol.keep 108 = some [true, false, true, false, true, false, false, false, false, false, true, true, false, false, false, false, false, false, false, false, false, false, false, false, false, false, false, false, false, false, false, false, false, false, false, false, false, false, false, false, false, false, false, false, false, false, false, false, false, false, false, false, false, false, false, false, false, false] := (rfl)
theorem parr108 (t : Nat) : ppol.arr 108 t = 1 := (rfl)
theorem pfree108 : ppol.free 108 = false := (rfl)
theorem ptake109 (t : Nat) : ppol.take 109 t = ([] : List Nat).contains t := (rfl)
theorem ploc109 (t : Nat) : ppol.loc 109 t = ([] : List Nat).contains t := (rfl)
theorem pkeep109 : ppol.keep 109 = some [true, false, true, false, true, false, false, false, false, false, true, true, false, false, false, false, false, false, false, false, false, false, false, false, false, false, false, false, false, false, false, false, false, false, false, false, false, false, false, false, false, false, false, false, false, false, false, false, false, false, false, false, false, false, false, false, false, false] := (rfl)
theorem parr109 (t : Nat) : ppol.arr 109 t = 1 := (rfl)
theorem pfree109 : ppol.free 109 = false := (rfl)
theorem ptake110 (t : Nat) : ppol.take 110 t = ([] : List Nat).contains t := (rfl)
theorem ploc110 (t : Nat) : ppol.loc 110 t = ([] : List Nat).contains t := (rfl)
theorem pkeep110 : ppol.keep 110 = some [true, true, true, true, false, false, false, false, false, false, true, false, false, false, false, false, false, false, false, false, false, false, false, false, false, false, false, false, false, false, false, false, false, false, false, false, false, false] := (rfl)
theorem parr110 (t : Nat) : ppol.arr 110 t = 1 := (rfl)
theorem pfree110 : ppol.free 110 = false := (rfl)
theorem porder110_3 : ppol.orders 110 3 = [[0, 1, 2, 3, 4, 5, 6, 7, 8, 9, 10, 11, 12, 13, 14, 15, 16, 17, 18, 19, 20, 21, 22, 23], [0, 1, 2, 3, 4, 5, 6, 7, 8, 9, 10, 11, 12, 13, 14, 15, 16, 17, 18, 19, 20, 21, 22, 23], [0, 1, 2, 3, 8, 9, 10, 11, 12, 13, 14, 15, 16, 17, 18, 19, 20, 21, 4, 5, 6, 7, 22, 23]] := (rfl)
theorem pneed110_3 : ppol.need 110 3 = [0, 1, 2, 3, 4, 5, 6, 7, 8, 9, 10, 11, 12, 13, 14, 15, 16, 17, 18, 19] := (rfl)
theorem pwr110_3 : ppol.wr 110 3 = [16, 17, 18, 19, 20, 21, 22, 23, 24, 25, 26, 27, 28, 29, 30, 31, 32, 33, 34, 35, 36, 37] := (rfl)
theorem ptake111 (t : Nat) : ppol.take 111 t = ([] : List Nat).contains t := (rfl)
theorem ploc111 (t : Nat) : ppol.loc 111 t = ([] : List Nat).contains t := (rfl)
theorem pkeep111 : ppol.keep 111 = some [true, true, true, true, false, false, false, false, false, false, true, false, false, false, false, false, false, false, false, false, false, false, false, false, false, false, false, false, false, false, false, false, false, false, false, false, false, false] := (rfl)
theorem parr111 (t : Nat) : ppol.arr 111 t = 1 := (rfl)
theorem pfree111 : ppol.free 111 = false := (rfl)
theorem porder111_3 : ppol.orders 111 3 = [[0, 1, 2, 3, 4, 5, 6, 7, 8, 9, 10, 11, 12, 13, 14, 15, 16, 17, 18, 19, 20, 21, 22, 23], [0, 1, 2, 3, 4, 5, 6, 7, 8, 9, 10, 11, 12, 13, 14, 15, 16, 17, 18, 19, 20, 21, 22, 23], [0, 1, 2, 3, 8, 9, 10, 11, 12, 13, 14, 15, 16, 17, 18, 19, 20, 21, 4, 5, 6, 7, 22, 23]] := (rfl)
theorem pneed111_3 : ppol.need 111 3 = [0, 1, 2, 3, 4, 5, 6, 7, 8, 9, 10, 11, 12, 13, 14, 15, 16, 17, 18, 19] := (rfl)
theorem pwr111_3 : ppol.wr 111 3 = [16, 17, 18, 19, 20, 21, 22, 23, 24, 25, 26, 27, 28, 29, 30, 31, 32, 33, 34, 35, 36, 37] := (rfl)
attribute [simp] pfree4 pwr4_19 pneed4_19 porder4_19 parr4 pkeep4 ploc4 ptake4
attribute [simp] pfree8 parr8 pkeep8 ploc8 ptake8
attribute [simp] pfree11 parr11 pkeep11
attribute [simp] ploc11 ptake11 pfree13 pwr13_6
attribute [simp] pneed13_6 porder13_6 pwr13_11 pneed13_11 porder13_11 parr13 pkeep13 ploc13 ptake13 pfree14 pwr14_4 pneed14_4
attribute [simp] porder14_4 pwr14_8 pneed14_8 porder14_8 pwr14_12 pneed14_12 porder14_12 parr14 pkeep14 ploc14 ptake14 pfree15
attribute [simp] pwr15_9 pneed15_9 porder15_9 pwr15_17 pneed15_17 porder15_17 pwr15_24 pneed15_24 porder15_24 pwr15_26 pneed15_26 porder15_26
attribute [simp] pwr15_31 pneed15_31 porder15_31 pwr15_33 pneed15_33 porder15_33 parr15 pkeep15 ploc15 ptake15 pfree16 parr16
attribute [simp] pkeep16 ploc16 ptake16 pfree17 parr17 pkeep17 ploc17 ptake17 pfree18 pwr18_15 pneed18_15 porder18_15
attribute [simp] parr18 pkeep18 ploc18 ptake18 pfree19 parr19 pkeep19 ploc19 ptake19
attribute [simp] pfree27 parr27 pkeep27 ploc27 ptake27
attribute [simp] pfree30 parr30 pkeep30 ploc30 ptake30
attribute [simp] pfree32 parr32 pkeep32 ploc32 ptake32
attribute [simp] pfree36
attribute [simp] parr36 pkeep36 ploc36 ptake36
attribute [simp] pfree39 parr39 pkeep39 ploc39 ptake39
attribute [simp] pfree41 parr41 pkeep41 ploc41 ptake41 pfree42 parr42 pkeep42 ploc42
attribute [simp] ptake42 pfree43 parr43 pkeep43 ploc43 ptake43 pfree44 parr44 pkeep44 ploc44 ptake44 pfree45
attribute [simp] parr45 pkeep45 ploc45 ptake45 pfree46 parr46 pkeep46 ploc46 ptake46 pfree47 parr47 pkeep47
attribute [simp] ploc47 ptake47 pfree48 parr48 pkeep48 ploc48 ptake48 pfree49 pwr49_1 pneed49_1 porder49_1 pwr49_5
attribute [simp] pneed49_5 porder49_5 parr49 pkeep49 ploc49 ptake49 pfree50 parr50 pkeep50 ploc50 ptake50 pfree51
attribute [simp] parr51 pkeep51 ploc51 ptake51 pfree52 parr52 pkeep52 ploc52 ptake52 pfree53 pwr53_3 pneed53_3
attribute [simp] porder53_3 parr53 pkeep53 ploc53 ptake53
attribute [simp] pfree58 parr58 pkeep58 ploc58 ptake58
attribute [simp] pfree62 parr62 pkeep62 ploc62 ptake62 pfree63 parr63 pkeep63 ploc63 ptake63 pfree64 parr64
attribute [simp] pkeep64 ploc64 ptake64 pfree65 parr65 pkeep65 ploc65 ptake65 pfree66 pwr66_4 pneed66_4 porder66_4
attribute [simp] parr66 pkeep66 ploc66 ptake66 pfree67 parr67 pkeep67 ploc67 ptake67 pfree68 parr68 pkeep68
attribute [simp] ploc68 ptake68 pfree69 parr69 pkeep69 ploc69 ptake69 pfree70 parr70 pkeep70 ploc70 ptake70
attribute [simp] pfree71 parr71 pkeep71 ploc71 ptake71 pfree72 parr72 pkeep72 ploc72 ptake72 pfree73 parr73
attribute [simp] pkeep73 ploc73 ptake73 pfree74 parr74 pkeep74 ploc74 ptake74 pfree75 parr75 pkeep75 ploc75
attribute [simp] ptake75 pfree76 parr76 pkeep76 ploc76 ptake76 pfree77 parr77 pkeep77 ploc77 ptake77 pfree78
attribute [simp] parr78 pkeep78 ploc78 ptake78 pfree79 parr79 pkeep79 ploc79 ptake79 pfree80 parr80 pkeep80
attribute [simp] ploc80 ptake80 pfree81 parr81 pkeep81 ploc81 ptake81 pfree82 parr82 pkeep82 ploc82 ptake82
attribute [simp] pfree83 parr83 pkeep83 ploc83 ptake83 pfree84 parr84 pkeep84 ploc84 ptake84 pfree85 parr85
attribute [simp] pkeep85 ploc85 ptake85 pfree86 parr86 pkeep86 ploc86 ptake86 pfree87 parr87 pkeep87 ploc87
attribute [simp] ptake87 pfree88 parr88 pkeep88 ploc88 ptake88 pfree89 parr89 pkeep89 ploc89 ptake89 pfree90
attribute [simp] parr90 pkeep90 ploc90 ptake90 pfree91 parr91 pkeep91 ploc91 ptake91 pfree92 parr92 pkeep92
attribute [simp] ploc92 ptake92 pfree93 parr93 pkeep93 ploc93 ptake93 pfree94 parr94 pkeep94 ploc94 ptake94
attribute [simp] pfree95 parr95 pkeep95 ploc95 ptake95 pfree97 parr97
attribute [simp] pkeep97 ploc97 ptake97 pfree98 parr98 pkeep98 ploc98 ptake98
attribute [simp] pfree100 parr100 pkeep100 ploc100 ptake100 pfree101 parr101 pkeep101 ploc101 ptake101 pfree102
attribute [simp] parr102 pkeep102 ploc102 ptake102 pfree103 parr103 pkeep103 ploc103 ptake103 pfree104 pwr104_4 pneed104_4
attribute [simp] porder104_4 pwr104_6 pneed104_6 porder104_6 parr104 pkeep104 ploc104 ptake104 pfree105 pwr105_5 pneed105_5 porder105_5
attribute [simp] pwr105_11 pneed105_11 porder105_11 pwr105_17 pneed105_17 porder105_17 pwr105_23 pneed105_23 porder105_23 pwr105_35 pneed105_35 porder105_35
attribute [simp] parr105 pkeep105 ploc105 ptake105 pfree106 pwr106_4 pneed106_4 porder106_4 pwr106_6 pneed106_6 porder106_6 parr106
attribute [simp] pkeep106 ploc106 ptake106 pfree107 pwr107_5 pneed107_5 porder107_5 pwr107_11 pneed107_11 porder107_11 pwr107_17 pneed107_17
attribute [simp] porder107_17 pwr107_23 pneed107_23 porder107_23 pwr107_35 pneed107_35 porder107_35 parr107 pkeep107 ploc107 ptake107 pfree108
attribute [simp] parr108 pkeep108 ploc108 ptake108 pfree109 parr109 pkeep109 ploc109 ptake109 pfree110 pwr110_3 pneed110_3
attribute [simp] porder110_3 parr110 pkeep110 ploc110 ptake110 pfree111 pwr111_3 pneed111_3 porder111_3 parr111 pkeep111 ploc111
attribute [simp] ptake111
theorem pfrees0 (f : FuncId) : ppol.frees f = [] := (rfl)
attribute [simp] pfrees0
theorem pfrz (f : FuncId) : ppol.frz f = ([43, 46, 14, 20, 23, 44, 47] : List Nat).contains f := (rfl)
theorem pfzr (f : FuncId) (id : Nat) : ppol.fzr f id = bif (f == 23 && id == 15) then [(4, 2)] else [] := (rfl)
theorem pout (f : FuncId) (id : Nat) : ppol.out f id = none := (rfl)
theorem pneedF (f : FuncId) (id : Nat) : ppol.needF f id = ([], []) := (rfl)
attribute [simp ↓] pneedF
attribute [simp] pfrz pout pfzr pneedF
end Go.Ab.Seat
namespace Go.Ab.Seat
open Go.Proofs
theorem fine : Fine Try.prog := fine_of (by kernel_rfl)
theorem works_run (m : Nat) : (runFn Try.prog (handler Try.prog ppol (m + 60)) (m + 60) ppol 9 .none [] { heap := [], next := 0 }).map (fun r => r.1.isTrue) = some true := by kernel_rfl
end Go.Ab.Seat
namespace Go.Ab.Seat
open Go.Proofs
set_option maxRecDepth 100000
set_option maxHeartbeats 2000000
variable {H : Handler} {N : Nat} {S : Sto}
theorem free_yes {f : FuncId} (h : pfrees.contains f = true) : ppol.free f = true := h
theorem num_run (e : Int) : runFn Try.prog H N ppol 11 .none [.int .i64 e] S = some (.ret (.int .i64 e), .none, S) := by
 rw [runFn_eq Try.func11 (by rfl)]
 simp [Try.f11]
theorem end_run (a : Int) (o : Option (List UInt8)) (own : Bool) : runFn Try.prog H N ppol 41 .none [.agg [.int .i64 a, sv own 1 byteRow o]] S = some (.ret (.int .i64 (IntKind.i64.wrap (a + (ol o).length))), .none, S) := by
 rw [runFn_eq Try.func41 (by rfl)]
 simp [Try.f41]
theorem must_t (k : Int) : runFn Try.prog H N ppol 36 .none [.bool true, .int .i64 k] S = some (.ret .undef, .none, S) := by
 rw [runFn_eq Try.func36 (by rfl)]
 simp [Try.f36]
theorem must_f (k : Int) : runFn Try.prog H N ppol 36 .none [.bool false, .int .i64 k] S = some (.pan [⟨.iface 29 (.int .i64 k), false⟩], .none, S) := by
 rw [runFn_eq Try.func36 (by rfl)]
 simp [Try.f36]
theorem not_big (n : Nat) (h : n < 2 ^ 40) : ¬ bigA Try.prog 5 n := by
 unfold bigA
 simp
 omega
theorem app_bytes {st : St} {v : AV} {xt : TypeId} {rows more : List (List AV)} (hx : xt = 28 ∨ xt = 9) (hm : rowsIn st.S 1 v = some more) (hb : rows.length + more.length < 2 ^ 40) : appendS Try.prog 1 28 xt (.sl true 1 rows) v st = some (.val (.sl true 1 (rows ++ more)) st) := by
 rcases hx with rfl | rfl
 ·exact app_own Try.underlying28 Try.underlying28 (by simp) tyzero5 rfl tycells5 rfl hm (not_big _ hb)
 ·exact app_own Try.underlying28 Try.underlying9 (by simp) tyzero5 rfl tycells5 rfl hm (not_big _ hb)
theorem clone_run (own : Bool) (o : Option (List UInt8)) (hb : (ol o).length < 2 ^ 40) : runFn Try.prog H N ppol 39 .none [sv own 1 byteRow o] S = some (.ret (sv true 1 byteRow o), .none, S) := by
 rw [runFn_eq Try.func39 (by rfl)]
 cases o with
 | none => simp [Try.f39, sv]
 | some bs =>
  have hb' : bs.length < 2 ^ 40 := hb
  simp [Try.f39, buildSliceA, fillRows]
  rw [app_bytes (more := bs.map byteRow) (.inl rfl) (by simp [ol]) (by simpa using hb')]
  simp [sv]
end Go.Ab.Seat
namespace Go.Ab.Seat
open Go.Proofs
set_option maxRecDepth 100000
set_option maxHeartbeats 2000000
variable {H : Handler} {N : Nat} {S : Sto}
theorem wrap_succ {k n : Nat} (h : k < n) (hb : n < 2 ^ 62) : IntKind.i64.wrap ((k : Int) + 1) = (k : Int) + 1 :=
 Go.IntWalk.i64_in _ (by omega)
@[simp] theorem int_bne (a b : Nat) : ((a : Int) != (b : Int)) = !decide (a = b) := by
 by_cases h : a = b
 ·simp [h]
 ·rw [show ((a : Int) != b) = true from by rw [bne_iff_ne]; omega]; simp [h]
@[simp] theorem int_beq (a b : Nat) : ((a : Int) == (b : Int)) = decide (a = b) := by
 by_cases h : a = b
 ·simp [h]
 ·rw [show ((a : Int) == b) = false from by rw [beq_eq_false_iff_ne]; omega]; simp [h]
theorem must_call {n : Nat} (b : Bool) (k : Int) : (handler Try.prog ppol (n + 1)).call (.func 36) [.bool b, .int .i64 k] S = some (if b then .ret .undef else .pan [⟨.iface 29 (.int .i64 k), false⟩], S) := by
 rw [call_func (by rfl)]
 cases b
 ·rw [must_f]; rfl
 ·rw [must_t]; rfl
def errPan : AEnd := .pan [⟨.iface 29 (.int .i64 310), false⟩]
end Go.Ab.Seat
namespace Go.Ab.Seat
open Go.Proofs
set_option maxRecDepth 100000
set_option maxHeartbeats 2000000
variable {H : Handler} {N : Nat} {S : Sto}
end Go.Ab.Seat
namespace Go.Ab.Seat
open Go.Proofs
set_option maxRecDepth 100000
set_option maxHeartbeats 2000000
variable {H : Handler} {N : Nat} {S : Sto}
@[simp] theorem len9 (s : List UInt8) : lenA Try.prog S 9 (.str s) = some (.int .i64 s.length) := by simp [lenA]
structure PartV where
 at' : Int
 bytes : Option (List UInt8)
structure SymV where
 name : List UInt8
 at' : Int
structure FileV where
 parts : Option (List PartV)
 names : Option (List SymV)
def partRow (p : PartV) : List AV := [.int .i64 p.at', sv false 1 byteRow p.bytes]
def symRow (s : SymV) : List AV := [.str s.name, .int .i64 s.at']
def fileC (f : FileV) : List AV := [sv false 2 partRow f.parts, sv false 2 symRow f.names]
def sizeOf1 (p : PartV) : Nat := min (ol p.bytes).length 5000
def sizes (l : List PartV) : Nat := (l.map sizeOf1).sum
theorem sizes_take {l : List PartV} {k : Nat} {p : PartV} (h : l[k]? = some p) : sizes (l.take (k + 1)) = sizes (l.take k) + sizeOf1 p := by
 have hlt := (List.getElem?_eq_some_iff.1 h).1
 have : l[k] = p := (List.getElem?_eq_some_iff.1 h).2
 unfold sizes
 rw [List.take_succ_eq_append_getElem hlt, this]
 simp
theorem sizes_le (l : List PartV) : sizes l ≤ 5000 * l.length := by
 unfold sizes
 induction l with
 | nil => simp
 | cons p l ih => simp only [List.map_cons, List.sum_cons, List.length_cons]; have : sizeOf1 p ≤ 5000 := Nat.min_le_right _ _; omega
def fewOf (f : FileV) : Bool := (((ol f.names).take 100).all fun s => decide (s.name.length ≤ 40)) && decide ((ol f.parts).length ≤ 80) && decide ((ol f.names).length ≤ 80) && decide (sizes ((ol f.parts).take 100) ≤ 5000)
theorem few_run (f : FileV) (hN : 100 < N) : runFn Try.prog H N ppol 8 .none [.agg (fileC f)] S = some (.ret (.bool (fewOf f)), .none, S) := by
 rw [runFn_eq Try.func8 (by rfl)]
 simp [Try.f8, fileC]
 rw [loop_go (fun k => { env := envOf 60 [(1, .box (fileC f)), (3, .int .i64 (sizes ((ol f.parts).take k))), (4, .int .i64 k), (5, .undef)], defs := [], par := .none, S := S }) (min (ol f.parts).length 100) (by omega)]
 ·generalize hm : min (ol f.parts).length 100 = m
  have hsz : sizes ((ol f.parts).take m) = sizes ((ol f.parts).take 100) := by
   rcases Nat.lt_or_ge (ol f.parts).length 100 with h | h
   ·rw [List.take_of_length_le (by omega), List.take_of_length_le (by omega)]
   ·rw [show m = 100 by omega]
  generalize sizes ((ol f.parts).take m) = sz at hsz
  have tail : (((m : Int) < (ol f.parts).length) ∧ ¬ (m : Int) < 100) ∨ ¬ ((m : Int) < (ol f.parts).length) := by omega
  rcases tail with ⟨c1, c2⟩ | c1
  all_goals
   first | simp [fileC, c1, c2] | simp [fileC, c1]
   rcases first_or_all (fun k => ∃ s, (ol f.names)[k]? = some s ∧ 40 < s.name.length) (min (ol f.names).length 100) with ⟨i, h1, ⟨s, h2, h3⟩, h4⟩ | h4
   ·rw [loop_go (fun k => { env := envOf 60 [(1, .box (fileC f)), (3, .int .i64 sz), (4, .int .i64 m), (5, .int .i64 k)], defs := [], par := .none, S := S }) i (by omega)]
    ·have d1 : (i : Int) < (ol f.names).length := by omega
     have d2 : (i : Int) < 100 := by omega
     have d3 : (40 : Int) < s.name.length := by omega
     have hf : fewOf f = false := by
      have : ((ol f.names).take 100).all (fun s => decide (s.name.length ≤ 40)) = false := by
       rw [List.all_eq_false]
       exact ⟨s, List.mem_take_iff_getElem.2 ⟨i, by omega, (List.getElem?_eq_some_iff.1 h2).2⟩, by simp; omega⟩
      simp [fewOf, this]
     simp [fileC, d1, d2, d3, index_sv Try.underlying23 tycells64 _ h2, symRow, hf]
    ·simp [fileC]
    ·intro k hk
     obtain ⟨p, hp⟩ : ∃ p, (ol f.names)[k]? = some p := ⟨_, List.getElem?_eq_getElem (by omega)⟩
     have d1 : (k : Int) < (ol f.names).length := by omega
     have d2 : (k : Int) < 100 := by omega
     have d3 : ¬ (40 : Int) < p.name.length := by
      have := h4 k hk
      intro hh
      exact this ⟨p, hp, by omega⟩
     have h2 : IntKind.i64.wrap ((k : Int) + 1) = (k : Int) + 1 := wrap_succ (n := 100) (by omega) (by omega)
     simp [fileC, d1, d2, d3, index_sv Try.underlying23 tycells64 _ hp, symRow, h2]
   ·rw [loop_go (fun k => { env := envOf 60 [(1, .box (fileC f)), (3, .int .i64 sz), (4, .int .i64 m), (5, .int .i64 k)], defs := [], par := .none, S := S }) (min (ol f.names).length 100) (by omega)]
    ·have hall : ((ol f.names).take 100).all (fun s => decide (s.name.length ≤ 40)) = true := by
      rw [List.all_eq_true]
      intro s hs
      obtain ⟨i, hi, rfl⟩ := List.mem_take_iff_getElem.1 hs
      have := h4 i (by omega)
      by_cases hh : (ol f.names)[i].name.length ≤ 40
      ·simpa using hh
      ·exact absurd ⟨_, List.getElem?_eq_getElem _, by omega⟩ this
     have hf : fewOf f = (decide ((ol f.parts).length ≤ 80) && decide ((ol f.names).length ≤ 80) && decide (sz ≤ 5000)) := by
      simp [fewOf, hall, hsz]
     rw [hf]
     generalize hq : min (ol f.names).length 100 = q
     have e1 : (((ol f.parts).length : Int) ≤ 80) = ((ol f.parts).length ≤ 80) := by rw [eq_iff_iff]; omega
     have e2 : (((ol f.names).length : Int) ≤ 80) = ((ol f.names).length ≤ 80) := by rw [eq_iff_iff]; omega
     have e3 : ((sz : Int) ≤ 5000) = (sz ≤ 5000) := by rw [eq_iff_iff]; omega
     have tail : (((q : Int) < (ol f.names).length) ∧ ¬ (q : Int) < 100) ∨ ¬ ((q : Int) < (ol f.names).length) := by omega
     by_cases g1 : (ol f.parts).length ≤ 80 <;> by_cases g2 : (ol f.names).length ≤ 80 <;> rcases tail with ⟨d1, d2⟩ | d1
     all_goals first | simp [fileC, d1, d2, e1, e2, e3, g1, g2] | simp [fileC, d1, e1, e2, e3, g1, g2]
    ·simp [fileC]
    ·intro k hk
     obtain ⟨p, hp⟩ : ∃ p, (ol f.names)[k]? = some p := ⟨_, List.getElem?_eq_getElem (by omega)⟩
     have d1 : (k : Int) < (ol f.names).length := by omega
     have d2 : (k : Int) < 100 := by omega
     have d3 : ¬ (40 : Int) < p.name.length := by
      have := h4 k hk
      intro hh
      exact this ⟨p, hp, by omega⟩
     have h2 : IntKind.i64.wrap ((k : Int) + 1) = (k : Int) + 1 := wrap_succ (n := 100) (by omega) (by omega)
     simp [fileC, d1, d2, d3, index_sv Try.underlying23 tycells64 _ hp, symRow, h2]
 ·simp [fileC, sizes]
 ·intro k hk
  obtain ⟨p, hp⟩ : ∃ p, (ol f.parts)[k]? = some p := ⟨_, List.getElem?_eq_getElem (by omega)⟩
  have c1 : (k : Int) < (ol f.parts).length := by omega
  have c2 : (k : Int) < 100 := by omega
  have h1 := sizes_take hp
  have h2 : IntKind.i64.wrap ((k : Int) + 1) = (k : Int) + 1 := wrap_succ (n := 100) (by omega) (by omega)
  have h3 : foldA min2 [.int .i64 ((ol p.bytes).length : Nat), .int .i64 5000] = some (.int .i64 (sizeOf1 p)) := by
   unfold sizeOf1
   by_cases h : (ol p.bytes).length ≤ 5000
   ·have : ((ol p.bytes).length : Int) ≤ 5000 := by omega
    simp [foldA, foldB, min2, Nat.min_eq_left h]; try omega
   ·have : ¬ ((ol p.bytes).length : Int) ≤ 5000 := by omega
    simp [foldA, foldB, min2, Nat.min_eq_right (Nat.le_of_lt (Nat.lt_of_not_le h))]; try omega
  have hle := sizes_le ((ol f.parts).take k)
  have hlk : ((ol f.parts).take k).length ≤ 100 := by simp; omega
  have hp1 : sizeOf1 p ≤ 5000 := Nat.min_le_right _ _
  have h4 : IntKind.i64.wrap ((sizes ((ol f.parts).take k) : Int) + (sizeOf1 p : Int)) = (sizes ((ol f.parts).take k) : Int) + (sizeOf1 p : Int) := Go.IntWalk.i64_in _ (by omega)
  simp [fileC, c1, c2, index_sv Try.underlying22 tycells45 _ hp, partRow, h2, h3, h1, h4]
end Go.Ab.Seat
namespace Go.Ab.Seat
open Go.Proofs
set_option maxRecDepth 100000
set_option maxHeartbeats 2000000
variable {H : Handler} {N : Nat} {S : Sto}
theorem byteRow_of (n : Nat) (h : n < 256) : byteRow (UInt8.ofNat n) = [.int .u8 n] := by
 simp [byteRow, Nat.mod_eq_of_lt h]
end Go.Ab.Seat
namespace Go.Ab.Seat
open Go.Proofs
set_option maxRecDepth 100000
set_option maxHeartbeats 2000000
variable {H : Handler} {N : Nat} {S : Sto}
@[simp] theorem range9 (s : List UInt8) (st : St) : rangeK Try.prog 9 (.str s) st = some (.val (.ptr st.S.next 0) { st with S := st.S.new (.siter ⟨s.toArray⟩ 0) }) := by
 simp [rangeK]
def oddOf (c : Int) : Bool := (decide (c < 97) || decide (122 < c)) && (decide (c < 48) || decide (57 < c))
theorem odd_run (c : Int) : runFn Try.prog H N ppol 83 .none [.int .i32 c] S = some (.ret (.bool (oddOf c)), .none, S) := by
 rw [runFn_eq Try.func83 (by rfl)]
 by_cases h1 : c < 97 <;> by_cases h2 : 122 < c <;> by_cases h3 : c < 48 <;> by_cases h4 : 57 < c <;> simp [Try.f83, oddOf, h1, h2, h3, h4]
theorem odd_call {n : Nat} (c : Int) : (handler Try.prog ppol (n + 1)).call (.func 83) [.int .i32 c] S = some (.ret (.bool (oddOf c)), S) := by
 rw [call_func (by rfl), odd_run]; rfl
def scanOf (s : ByteArray) : Nat → Nat → Int
 | 0, _ => -1
 | n + 1, p => bif decide (p < s.size) then (bif oddOf (Utf8.decode s p).1 then p else scanOf s n (p + (Utf8.decode s p).2)) else -1
theorem scan_end {s : ByteArray} {p : Nat} (n : Nat) (h : ¬ p < s.size) : scanOf s n p = -1 := by
 cases n with
 | zero => rfl
 | succ n => simp [scanOf, h]
theorem width_pos (s : ByteArray) (pos : Nat) (h : pos < s.size) : 1 ≤ (Utf8.decode s pos).2 := by
 by_cases ha : (s[pos]'h).toNat < 128
 ·rw [decode_ascii s pos h ha]
  exact Nat.le_refl _
 ·exact (decode_high s pos h (by omega)).2
structure ScI where
 p : Nat
 n : Nat
def ScE (S : Sto) (id : Nat) (s : ByteArray) (i : ScI) : St := { env := envOf 21 [(1, .fn (.func 83) [] []), (2, .bool true), (10, .ptr id 0)], defs := [], par := .none, S := S.put id (.siter s i.p) }
def ScT (S : Sto) (id : Nat) (s : ByteArray) (i : ScI) (r : AExit × St) : Prop := s.size ≤ i.p + i.n →
 ∃ p, r.2.S = S.put id (.siter s p) ∧ r.2.defs = [] ∧ r.2.par = .none ∧ ((r.1 = .ret ∧ getT r.2.env 6 = .int .i64 (scanOf s i.n i.p)) ∨ (r.1 = .exit 0 ∧ r.2.env.length = 21 ∧ scanOf s i.n i.p = -1))
theorem index_run {n : Nat} (s : List UInt8) (hN : s.length < N) :
  ∃ S', runFn Try.prog (handler Try.prog ppol (n + 1)) N ppol 97 .none [.str s, .fn (.func 83) [] [], .bool true] S = some (.ret (.int .i64 (scanOf ⟨s.toArray⟩ s.length 0)), .none, S') ∧ Grew [] S S' := by
 rw [runFn_eq Try.func97 (by rfl)]
 simp [Try.f97]
 generalize hL : loopN _ _ _ _ = L
 generalize hby : (⟨s.toArray⟩ : ByteArray) = b at *
 have hbs : b.size = s.length := by subst hby; simp [ByteArray.size]
 have hS : (S.new (.siter b 0)).get S.next = some (.siter b 0) := get_new_self _ _
 obtain ⟨x, st', rfl, hT⟩ := loop_fam' hL (ScE (S.new (.siter b 0)) S.next b) (ScT (S.new (.siter b 0)) S.next b) (fun i => b.size - i.p) ⟨0, s.length⟩ (by show b.size - 0 < N; omega) (by simp [ScE, put_self hS]) (fun i => by
  obtain ⟨p, m⟩ := i
  clear hL
  by_cases hp : p < b.size
  ·have hw := width_pos b p hp
   cases ho : oddOf (Utf8.decode b p).1
   ·simp [ScE, get_put_self hS, hp, odd_call, ho]
    refine ⟨⟨p + (Utf8.decode b p).2, m - 1⟩, ?_, ?_, ?_⟩
    ·show b.size - (p + (Utf8.decode b p).2) < b.size - p; omega
    ·rfl
    ·intro r h hh
     simp only at hh
     obtain ⟨k, rfl⟩ : ∃ k, m = k + 1 := ⟨m - 1, by omega⟩
     have := h (by simp only; omega)
     simpa [scanOf, hp, ho] using this
   ·simp [ScE, get_put_self hS, hp, odd_call, ho]
    intro hh
    simp only at hh
    obtain ⟨k, rfl⟩ : ∃ k, m = k + 1 := ⟨m - 1, by omega⟩
    refine ⟨_, rfl, ?_⟩
    simp [scanOf, hp, ho]
  ·simp [ScE, ScT, get_put_self hS, hp, scan_end]
   intro _
   exact ⟨_, rfl⟩)
 clear hL
 obtain ⟨p, t1, t2, t3, ⟨rfl, t4⟩ | ⟨rfl, t5, t6⟩⟩ := hT (by simp only; omega)
 ·simp only at t1 t2 t3 t4
  refine ⟨(S.new (.siter b 0)).put S.next (.siter b p), by simp [t1, t2, t3, t4], ?_⟩
  exact (Grew.new _ _ _ rfl).late (Grew.put _ _ (.inl (by simp)) rfl) (Nat.le_refl _)
 ·simp only at t1 t2 t3 t5 t6
  refine ⟨(S.new (.siter b 0)).put S.next (.siter b p), by simp [t1, t2, t3, t6, getT_setT_self, t5], ?_⟩
  exact (Grew.new _ _ _ rfl).late (Grew.put _ _ (.inl (by simp)) rfl) (Nat.le_refl _)
end Go.Ab.Seat
namespace Go.Ab.Seat
open Go.Proofs
set_option maxRecDepth 100000
set_option maxHeartbeats 2000000
variable {H : Handler} {N : Nat} {S : Sto}
def regOf (s : List UInt8) : Int := match s with
 | [a, b] => if a.toNat = 114 ∧ 48 ≤ b.toNat ∧ b.toNat ≤ 55 then (b.toNat : Int) - 48 else -1
 | _ => -1
theorem reg_run (s : List UInt8) (hs : s.length < 2 ^ 62) : runFn Try.prog H N ppol 85 .none [.str s] S = some (.ret (.int .i64 (regOf s)), .none, S) := by
 rw [runFn_eq Try.func85 (by rfl)]
 by_cases h2 : s.length = 2
 ·obtain ⟨a, b, rfl⟩ : ∃ a b, s = [a, b] := by
   match s, h2 with
   | [a, b], _ => exact ⟨a, b, rfl⟩
  have hb := b.toNat_lt
  have g1 : regOf [a, b] = if a.toNat = 114 ∧ 48 ≤ b.toNat ∧ b.toNat ≤ 55 then (b.toNat : Int) - 48 else -1 := rfl
  generalize a.toNat = x at g1
  by_cases h3 : a.toNat = 114
  ·have e3 : ((a.toNat : Int) != 114) = false := by rw [bne_eq_false_iff_eq]; omega
   by_cases h4 : b.toNat < 48
   ·have e4 : (b.toNat : Int) < 48 := by omega
    simp [Try.f85, indexA, e4, regOf, h3]; omega
   ·have e4 : ¬ (b.toNat : Int) < 48 := by omega
    by_cases h5 : 55 < b.toNat
    ·have e5 : (55 : Int) < b.toNat := by omega
     simp [Try.f85, indexA, e4, e5, regOf, h3]; omega
    ·have e5 : ¬ (55 : Int) < b.toNat := by omega
     have e6 : IntKind.u8.wrap ((b.toNat : Int) - 48) = (b.toNat : Int) - 48 := Go.IntWalk.u8_in _ (by omega)
     have e7 : IntKind.i64.wrap ((b.toNat : Int) - 48) = (b.toNat : Int) - 48 := Go.IntWalk.i64_in _ (by omega)
     simp [Try.f85, indexA, e4, e5, e6, e7, convA, regOf, h3]; omega
  ·have e3 : ((a.toNat : Int) != 114) = true := by rw [bne_iff_ne]; omega
   simp [Try.f85, indexA, e3, regOf, h3]
 ·have e2 : ((s.length : Int) != 2) = true := by rw [bne_iff_ne]; omega
  have : regOf s = -1 := by
   unfold regOf
   split
   ·exact absurd rfl h2
   ·rfl
  simp [Try.f85, e2, this]
theorem reg_call {n : Nat} (s : List UInt8) (hs : s.length < 2 ^ 62) : (handler Try.prog ppol (n + 1)).call (.func 85) [.str s] S = some (.ret (.int .i64 (regOf s)), S) := by
 rw [call_func (by rfl), reg_run s hs]; rfl
def strRow (s : List UInt8) : List AV := [.str s]
theorem strIndex_run (own : Bool) (l : List (List UInt8)) (s : List UInt8) (hl : l.length < 2 ^ 30) (hN : l.length < N) : ∃ r : Int, runFn Try.prog H N ppol 98 .none [.sl own 1 (l.map strRow), .str s] S = some (.ret (.int .i64 r), .none, S) ∧ (0 ≤ r ↔ s ∈ l) := by
 rcases first_or_all (fun k => l[k]? = some s) l.length with ⟨m, h1, h2, h3⟩ | h
 ·refine ⟨m, ?_, by simp; exact List.mem_of_getElem? h2⟩
  rw [runFn_eq Try.func98 (by rfl)]
  simp [Try.f98, lenA]
  rw [loop_go (fun k => { env := envOf 19 [(0, .sl own 1 (l.map strRow)), (1, .str s), (7, .int .i64 l.length), (8, .int .i64 k)], defs := [], par := .none, S := S }) m (by omega)]
  ·have hm := (List.getElem?_eq_some_iff.1 h2).2
   simp [h1, indexAddrA, hm, strRow]
  ·simp
  ·intro k hk
   have hkl : k < l.length := by omega
   have hne : (s == l[k]) = false := by
    rw [beq_eq_false_iff_ne]; intro e
    exact h3 k hk (by rw [List.getElem?_eq_getElem hkl, e])
   have g7 : IntKind.i64.wrap ((k : Int) + 1) = (k : Int) + 1 := wrap_succ hkl (by omega)
   simp [hkl, indexAddrA, strRow, hne, g7]
 ·refine ⟨-1, ?_, ?_⟩
  ·rw [runFn_eq Try.func98 (by rfl)]
   simp [Try.f98, lenA]
   rw [loop_go (fun k => { env := envOf 19 [(0, .sl own 1 (l.map strRow)), (1, .str s), (7, .int .i64 l.length), (8, .int .i64 k)], defs := [], par := .none, S := S }) l.length (by omega)]
   ·simp
   ·simp
   ·intro k hkl
    have hne : (s == l[k]) = false := by
     rw [beq_eq_false_iff_ne]; intro e
     exact h k hkl (by rw [List.getElem?_eq_getElem hkl, e])
    have g7 : IntKind.i64.wrap ((k : Int) + 1) = (k : Int) + 1 := wrap_succ hkl (by omega)
    simp [hkl, indexAddrA, strRow, hne, g7]
  ·constructor
   ·intro h0; omega
   ·intro hm
    obtain ⟨i, hi, e⟩ := List.mem_iff_getElem.1 hm
    exact absurd (by rw [List.getElem?_eq_getElem hi, e]) (h i hi)
theorem strIn_run {n : Nat} (own : Bool) (l : List (List UInt8)) (s : List UInt8) (hl : l.length < 2 ^ 30) (hn : l.length < n) : runFn Try.prog (handler Try.prog ppol (n + 1)) N ppol 86 .none [.sl own 1 (l.map strRow), .str s] S = some (.ret (.bool (decide (s ∈ l))), .none, S) := by
 obtain ⟨r, h1, h2⟩ := strIndex_run (H := handler Try.prog ppol n) (N := n) (S := S) false l s hl hn
 have h3 : (handler Try.prog ppol (n + 1)).call (.func 98) [.sl false 1 (l.map strRow), .str s] S = some (.ret (.int .i64 r), S) := by
  rw [call_func (by rfl), h1]; rfl
 rw [runFn_eq Try.func86 (by rfl)]
 simp [Try.f86, h3, h2]
theorem strIn_call {n : Nat} (own : Bool) (l : List (List UInt8)) (s : List UInt8) (hl : l.length < 2 ^ 30) (hn : l.length < n) : (handler Try.prog ppol (n + 2)).call (.func 86) [.sl own 1 (l.map strRow), .str s] S = some (.ret (.bool (decide (s ∈ l))), S) := by
 rw [call_func (by rfl), strIn_run own l s hl hn]; rfl
end Go.Ab.Seat
namespace Go.Ab.Seat
open Go.Proofs
set_option maxRecDepth 100000
set_option maxHeartbeats 2000000
variable {H : Handler} {N : Nat} {S : Sto}
def rowsL : List (List UInt8 × Int) := [([], 0), ([104, 97, 108, 116], 0), ([108, 117, 105], 5), ([97, 100, 100, 105], 7), ([97, 100, 100], 3), ([115, 117, 98], 3), ([109, 117, 108], 3), ([97, 110, 100], 3), ([111, 114], 3), ([120, 111, 114], 3), ([115, 104, 108], 3), ([115, 104, 114], 3), ([115, 108, 116], 3), ([108, 119], 7), ([115, 119], 7), ([108, 98], 7), ([115, 98], 7), ([98, 101, 113], 7), ([98, 110, 101], 7), ([98, 108, 116], 7), ([106, 97, 108], 5), ([106, 97, 108, 114], 3), ([105, 110], 5), ([111, 117, 116], 5), ([99, 97, 108, 108], 0), ([98, 97, 99, 107], 0), ([103, 101, 116], 5), ([115, 101, 116], 5), ([102, 108, 117, 115, 104], 0)]
def rowC (kd : IntKind) (r : List UInt8 × Int) : List AV := [.str r.1, .int kd r.2]
def rowsC : List AV := rowsL.flatMap (rowC .i64)
@[simp] theorem rowsC_strip : rowsC.map AV.strip0 = rowsC := by kernel_rfl
theorem rows_run : runFn Try.prog H N ppol 99 .none [] S = some (.ret (.agg rowsC), .none, S) := by kernel_rfl
theorem rows_call {n : Nat} : (handler Try.prog ppol (n + 1)).call (.func 99) [] S = some (.ret (.agg rowsC), S) := by
 rw [call_func (by rfl), rows_run]; rfl
theorem row_at : ∀ k, (h : k < rowsL.length) → indexA Try.prog 138 (.agg rowsC) (.int .i64 k) = some (.agg (rowC .i64 rowsL[k]))
 | 0, _ => by kernel_rfl
 | 1, _ => by kernel_rfl
 | 2, _ => by kernel_rfl
 | 3, _ => by kernel_rfl
 | 4, _ => by kernel_rfl
 | 5, _ => by kernel_rfl
 | 6, _ => by kernel_rfl
 | 7, _ => by kernel_rfl
 | 8, _ => by kernel_rfl
 | 9, _ => by kernel_rfl
 | 10, _ => by kernel_rfl
 | 11, _ => by kernel_rfl
 | 12, _ => by kernel_rfl
 | 13, _ => by kernel_rfl
 | 14, _ => by kernel_rfl
 | 15, _ => by kernel_rfl
 | 16, _ => by kernel_rfl
 | 17, _ => by kernel_rfl
 | 18, _ => by kernel_rfl
 | 19, _ => by kernel_rfl
 | 20, _ => by kernel_rfl
 | 21, _ => by kernel_rfl
 | 22, _ => by kernel_rfl
 | 23, _ => by kernel_rfl
 | 24, _ => by kernel_rfl
 | 25, _ => by kernel_rfl
 | 26, _ => by kernel_rfl
 | 27, _ => by kernel_rfl
 | 28, _ => by kernel_rfl
 | k + 29, h => absurd h (by show ¬ k + 29 < 29; omega)
theorem row_at0 : indexA Try.prog 138 (.agg rowsC) (.int .i64 0) = some (.agg [.str [], .int .i64 0]) := by kernel_rfl
def isNum (s : List UInt8) : Bool := (rowsL.drop 1).any fun r => r.1 == s
theorem number87_run {n : Nat} (s : List UInt8) (hN : 29 < N) : ∃ k : Int, runFn Try.prog (handler Try.prog ppol (n + 1)) N ppol 87 .none [.str s] S = some (.ret (.tup [.int .i64 k, .bool (isNum s)]), .none, S) := by
 have hlen : rowsL.length = 29 := rfl
 rcases first_or_all (fun k => 0 < k ∧ ∃ r, rowsL[k]? = some r ∧ r.1 = s) rowsL.length with ⟨m, h1, ⟨h0, r, h2, h4⟩, h3⟩ | h
 ·refine ⟨m, ?_⟩
  have hm := (List.getElem?_eq_some_iff.1 h2).2
  have hn : isNum s = true := by
   unfold isNum
   rw [List.any_eq_true]
   refine ⟨r, ?_, by simp [h4]⟩
   obtain ⟨j, rfl⟩ : ∃ j, m = j + 1 := ⟨m - 1, by omega⟩
   exact List.mem_of_getElem? (i := j) (by rw [List.getElem?_drop, Nat.add_comm]; exact h2)
  rw [runFn_eq Try.func87 (by rfl)]
  simp [Try.f87, rows_call]
  rw [loop_go (fun k => { env := envOf 25 [(0, .str s), (4, .int .i64 0), (7, .agg rowsC), (8, .int .i64 k)], defs := [], par := .none, S := S }) m (by omega)]
  ·have e1 : (m : Int) < 29 := by omega
   have e2 : (0 : Int) < m := by omega
   have e3 : ((m : Int) != 0) = true := by rw [bne_iff_ne]; omega
   simp [row_at m h1, hm, rowC, e1, h0, e3, h4, writeCells, hn]
  ·simp
  ·intro k hk
   have hkl : k < rowsL.length := by omega
   have e1 : (k : Int) < 29 := by omega
   have g7 : IntKind.i64.wrap ((k : Int) + 1) = (k : Int) + 1 := wrap_succ hkl (by omega)
   by_cases hz : k = 0
   ·subst hz
    simp [row_at0, writeCells]
    exact Go.IntWalk.i64_in _ (by omega)
   ·have e2 : 0 < k := by omega
    have hne : (rowsL[k].1 == s) = false := by
     rw [beq_eq_false_iff_ne]; intro e
     exact h3 k hk ⟨by omega, _, List.getElem?_eq_getElem hkl, e⟩
    simp [row_at k hkl, rowC, e1, e2, hne, writeCells, g7]
 ·refine ⟨0, ?_⟩
  have hn : isNum s = false := by
   unfold isNum
   rw [List.any_eq_false]
   intro r hr he
   obtain ⟨i, hi⟩ := List.mem_iff_getElem?.1 hr
   rw [List.getElem?_drop] at hi
   have := (List.getElem?_eq_some_iff.1 hi).1
   exact h (1 + i) this ⟨by omega, r, hi, by simpa using he⟩
  rw [runFn_eq Try.func87 (by rfl)]
  simp [Try.f87, rows_call]
  rw [loop_go (fun k => { env := envOf 25 [(0, .str s), (4, .int .i64 0), (7, .agg rowsC), (8, .int .i64 k)], defs := [], par := .none, S := S }) 29 (by omega)]
  ·simp [hn]
  ·simp
  ·intro k hk
   have hkl : k < rowsL.length := by omega
   have e1 : (k : Int) < 29 := by omega
   have g7 : IntKind.i64.wrap ((k : Int) + 1) = (k : Int) + 1 := wrap_succ hkl (by omega)
   by_cases hz : k = 0
   ·subst hz
    simp [row_at0, writeCells]
    exact Go.IntWalk.i64_in _ (by omega)
   ·have e2 : 0 < k := by omega
    have hne : (rowsL[k].1 == s) = false := by
     rw [beq_eq_false_iff_ne]; intro e
     exact h k hkl ⟨by omega, _, List.getElem?_eq_getElem hkl, e⟩
    simp [row_at k hkl, rowC, e1, e2, hne, writeCells, g7]
theorem number87_call {n : Nat} (s : List UInt8) (hn : 30 < n) : ∃ k : Int, (handler Try.prog ppol (n + 2)).call (.func 87) [.str s] S = some (.ret (.tup [.int .i64 k, .bool (isNum s)]), S) := by
 obtain ⟨k, h⟩ := number87_run (n := n) (N := n + 1) (S := S) s (by omega)
 exact ⟨k, by rw [call_func (by rfl), h]; rfl⟩
theorem index84_call {n : Nat} (s : List UInt8) (hn : s.length < n) : ∃ S', (handler Try.prog ppol (n + 3)).call (.func 84) [.str s, .fn (.func 83) [] []] S = some (.ret (.int .i64 (scanOf ⟨s.toArray⟩ s.length 0)), S') ∧ Grew [] S S' := by
 obtain ⟨S', h, hg⟩ := index_run (n := n) (N := n + 1) (S := S) s (by omega)
 have h1 : (handler Try.prog ppol (n + 2)).call (.func 97) [.str s, .fn (.func 83) [] [], .bool true] S = some (.ret (.int .i64 (scanOf ⟨s.toArray⟩ s.length 0)), S') := by
  rw [call_func (by rfl), h]; rfl
 refine ⟨S', ?_, hg⟩
 rw [call_func (by rfl), runFn_eq Try.func84 (by rfl)]
 simp [Try.f84, h1]
def wordsL : List (List UInt8) := [[97, 116], [119, 111, 114, 100], [98, 121, 116, 101], [116, 101, 120, 116]]
def nameA (s : List UInt8) : Bool := match s with
 | [] => false
 | c :: r => decide (r.length < 16) && decide (97 ≤ c.toNat) && decide (c.toNat ≤ 122)
def nameB (s : List UInt8) : Bool := decide (scanOf ⟨s.toArray⟩ s.length 0 < 0) && decide (regOf s < 0) && !decide (s ∈ wordsL)
def nameOk (s : List UInt8) : Bool := nameA s && nameB s && !isNum s
theorem name_run {n : Nat} (s : List UInt8) (hs : s.length < 2 ^ 30) (hn : s.length + 40 < n) : ∃ S', runFn Try.prog (handler Try.prog ppol (n + 3)) N ppol 67 .none [.str s] S = some (.ret (.bool (nameOk s)), .none, S') ∧ Grew [] S S' := by
 obtain ⟨S', h1, hg⟩ := index84_call (n := n) (S := S) s (by omega)
 have h2 : (handler Try.prog ppol (n + 3)).call (.func 85) [.str s] S' = some (.ret (.int .i64 (regOf s)), S') := reg_call s (by omega)
 have h3 : (handler Try.prog ppol (n + 3)).call (.func 86) [.sl true 1 [[.str [97, 116]], [.str [119, 111, 114, 100]], [.str [98, 121, 116, 101]], [.str [116, 101, 120, 116]]], .str s] S' = some (.ret (.bool (decide (s ∈ wordsL))), S') := by
  rw [show [[AV.str [97, 116]], [.str [119, 111, 114, 100]], [.str [98, 121, 116, 101]], [.str [116, 101, 120, 116]]] = wordsL.map strRow from rfl]
  exact strIn_call (n := n + 1) true wordsL s (by decide) (by show 4 < n + 1; omega)
 obtain ⟨k, h4⟩ := number87_call (n := n + 1) (S := S') s (by omega)
 by_cases hA : nameA s = true
 ·refine ⟨S', ?_, hg⟩
  obtain ⟨c, r, rfl⟩ : ∃ c r, s = c :: r := by
   cases s with
   | nil => cases hA
   | cons c r => exact ⟨c, r, rfl⟩
  have hB : nameB (c :: r) = (decide (scanOf ⟨(c :: r).toArray⟩ (c :: r).length 0 < 0) && decide (regOf (c :: r) < 0) && !decide (c :: r ∈ wordsL)) := rfl
  have hok : nameOk (c :: r) = (nameB (c :: r) && !isNum (c :: r)) := by unfold nameOk; rw [hA]; rfl
  rw [hok, hB]
  simp only [nameA, Bool.and_eq_true, decide_eq_true_eq] at hA
  obtain ⟨⟨a1, a2⟩, a3⟩ := hA
  have b1 : ¬ (16 : Int) < (r.length : Int) + 1 := by omega
  have b2 : ¬ (c.toNat : Int) < 97 := by omega
  have b3 : ¬ (122 : Int) < c.toNat := by omega
  generalize scanOf ⟨(c :: r).toArray⟩ (c :: r).length 0 = x at h1
  generalize regOf (c :: r) = y at h2
  generalize decide (c :: r ∈ wordsL) = w at h3
  generalize isNum (c :: r) = v at h4
  rw [runFn_eq Try.func67 (by rfl)]
  by_cases c1 : 0 ≤ x <;> by_cases c2 : 0 ≤ y <;> cases w <;>
   simp [Try.f67, indexA, b1, b2, b3, h1, h2, h3, h4, c1, c2, buildSliceA, fillRows] <;> omega
 ·refine ⟨S, ?_, Grew.refl _ _⟩
  have hok : nameOk s = false := by unfold nameOk; simp [hA]
  rw [hok, runFn_eq Try.func67 (by rfl)]
  cases s with
  | nil => simp [Try.f67]
  | cons c r =>
   have hA' : (decide (r.length < 16) && decide (97 ≤ c.toNat) && decide (c.toNat ≤ 122)) = false := by
    cases h : (decide (r.length < 16) && decide (97 ≤ c.toNat) && decide (c.toNat ≤ 122)) with
    | false => rfl
    | true => exact absurd h hA
   by_cases b1 : (16 : Int) < (r.length : Int) + 1
   ·simp [Try.f67, b1]
   ·by_cases b2 : (c.toNat : Int) < 97
    ·simp [Try.f67, indexA, b1, b2]
    ·by_cases b3 : (122 : Int) < c.toNat
     ·simp [Try.f67, indexA, b1, b2, b3]
     ·exfalso
      have d1 : r.length < 16 := by omega
      have d2 : 97 ≤ c.toNat := by omega
      have d3 : c.toNat ≤ 122 := by omega
      simp [d1, d2, d3] at hA'
theorem name_call {n : Nat} (s : List UInt8) (hs : s.length < 2 ^ 30) (hn : s.length + 40 < n) : ∃ S', (handler Try.prog ppol (n + 4)).call (.func 67) [.str s] S = some (.ret (.bool (nameOk s)), S') ∧ Grew [] S S' := by
 obtain ⟨S', h, hg⟩ := name_run (n := n) (N := n + 3) (S := S) s hs hn
 exact ⟨S', by rw [call_func (by rfl), h]; rfl, hg⟩
theorem name_long {n : Nat} (s : List UInt8) (h : 16 < s.length) : (handler Try.prog ppol (n + 1)).call (.func 67) [.str s] S = some (.ret (.bool (nameOk s)), S) := by
 cases s with
 | nil => simp at h
 | cons c r =>
  simp only [List.length_cons] at h
  have d1 : decide (r.length < 16) = false := by rw [decide_eq_false_iff_not]; omega
  have hok : nameOk (c :: r) = false := by simp [nameOk, nameA, d1]
  have b1 : (16 : Int) < (r.length : Int) + 1 := by omega
  rw [hok, call_func (by rfl), runFn_eq Try.func67 (by rfl)]
  simp [Try.f67, b1]
theorem name_any {n : Nat} (s : List UInt8) (hn : 60 ≤ n) : ∃ S', (handler Try.prog ppol (n + 4)).call (.func 67) [.str s] S = some (.ret (.bool (nameOk s)), S') ∧ Grew [] S S' := by
 by_cases h : 16 < s.length
 ·exact ⟨S, name_long (n := n + 3) s h, Grew.refl _ _⟩
 ·exact name_call s (by omega) (by omega)
end Go.Ab.Seat
namespace Go.Ab.Seat
open Go.Proofs
set_option maxRecDepth 100000
set_option maxHeartbeats 2000000
variable {H : Handler} {N : Nat} {S : Sto}
theorem goodBytes (b : UInt8) : sameL (byteRow b) (byteRow b) = true := by simp [byteRow]
theorem goodPart (p : PartV) : sameL (partRow p) (partRow p) = true := by simp [partRow, same_sv false 1 goodBytes]
theorem goodSym (p : SymV) : sameL (symRow p) (symRow p) = true := by simp [symRow]
theorem goodFile (f : FileV) : sameL (fileC f) (fileC f) = true := by simp [fileC, same_sv false 2 goodPart, same_sv false 2 goodSym]
@[simp] theorem partRow_len (p : PartV) : (partRow p).length = 2 := (rfl)
@[simp] theorem partRow_take (p : PartV) : (partRow p).take 2 = partRow p := (rfl)
@[simp] theorem partRow_strip (p : PartV) : (partRow p).map AV.strip0 = partRow p := by simp [partRow]
@[simp] theorem symRow_len (p : SymV) : (symRow p).length = 2 := (rfl)
@[simp] theorem symRow_take (p : SymV) : (symRow p).take 2 = symRow p := (rfl)
@[simp] theorem symRow_strip (p : SymV) : (symRow p).map AV.strip0 = symRow p := by simp [symRow]
@[simp] theorem fileC_len (p : FileV) : (fileC p).length = 2 := (rfl)
@[simp] theorem fileC_take (p : FileV) : (fileC p).take 2 = fileC p := (rfl)
@[simp] theorem fileC_strip (p : FileV) : (fileC p).map AV.strip0 = fileC p := by simp [fileC]
theorem end_call {n : Nat} (a : Int) (o : Option (List UInt8)) (own : Bool) : (handler Try.prog ppol (n + 1)).call (.func 41) [.agg [.int .i64 a, sv own 1 byteRow o]] S = some (.ret (.int .i64 (IntKind.i64.wrap (a + (ol o).length))), S) := by
 rw [call_func (by rfl), end_run]; rfl
def sizesOk (f : FileV) : Bool := decide ((ol f.parts).length ≤ 64) && decide ((ol f.names).length ≤ 64)
theorem right1_run {a : Nat} (f : FileV) (hS : S.get a = some (.cells (fileC f))) : runFn Try.prog H N ppol 62 .none [.ptr a 0] S = some (.ret (.bool (sizesOk f)), .none, S) := by
 rw [runFn_eq Try.func62 (by rfl)]
 unfold sizesOk
 by_cases h1 : (ol f.parts).length ≤ 64
 ·have g1 : ((ol f.parts).length : Int) ≤ 64 := by omega
  by_cases h2 : (ol f.names).length ≤ 64
  ·have g2 : ((ol f.names).length : Int) ≤ 64 := by omega
   simp [Try.f62, hS, fileC, g1, g2, h1, h2]
  ·have g2 : ¬ ((ol f.names).length : Int) ≤ 64 := by omega
   simp [Try.f62, hS, fileC, g1, g2, h1, h2]
 ·have g1 : ¬ ((ol f.parts).length : Int) ≤ 64 := by omega
  simp [Try.f62, hS, fileC, g1, h1]
def endI (p : PartV) : Int := IntKind.i64.wrap (p.at' + (ol p.bytes).length)
def badP (x : Int) (p : PartV) : Bool := decide ((ol p.bytes).length = 0) || decide (2048 < (ol p.bytes).length) || decide (p.at' < x) || decide (2048 ≤ p.at') || decide (2048 < endI p)
theorem bad_run {n b : Nat} (x : Int) (p : PartV) (hS : S.get b = some (.cells [.int .i64 x])) :
  runFn Try.prog (handler Try.prog ppol (n + 1)) N ppol 65 .none [.agg (partRow p), .ptr b 0] S = some (.ret (.bool (badP x p)), .none, S.put b (.cells [.int .i64 (endI p)])) := by
 rw [runFn_eq Try.func65 (by rfl)]
 have he : IntKind.i64.wrap (p.at' + (ol p.bytes).length) = endI p := rfl
 unfold badP
 by_cases h1 : (ol p.bytes).length = 0
 ·have g1 : (((ol p.bytes).length : Int) == 0) = true := by rw [beq_iff_eq]; omega
  simp [Try.f65, partRow, hS, h1, end_call, writeCells]
  rw [← he, h1]; simp
 ·have g1 : (((ol p.bytes).length : Int) == 0) = false := by rw [beq_eq_false_iff_ne]; omega
  by_cases h2 : 2048 < (ol p.bytes).length
  ·have g2 : (2048 : Int) < (ol p.bytes).length := by omega
   simp [Try.f65, partRow, hS, h1, g1, g2, h2, end_call, writeCells, he]
  ·have g2 : ¬ (2048 : Int) < (ol p.bytes).length := by omega
   by_cases h3 : p.at' < x
   ·simp [Try.f65, partRow, hS, h1, g1, g2, h2, h3, end_call, writeCells, he]
   ·by_cases h4 : 2048 ≤ p.at'
    ·simp [Try.f65, partRow, hS, h1, g1, g2, h2, h3, h4, end_call, writeCells, he]
    ·by_cases h5 : 2048 < endI p
     ·simp [Try.f65, partRow, hS, h1, g1, g2, h2, h3, h4, h5, end_call, writeCells, he]
     ·simp [Try.f65, partRow, hS, h1, g1, g2, h2, h3, h4, h5, end_call, writeCells, he]
theorem bad_call {n b : Nat} (x : Int) (p : PartV) (hS : S.get b = some (.cells [.int .i64 x])) :
  (handler Try.prog ppol (n + 2)).call (.func 65) [.agg (partRow p), .ptr b 0] S = some (.ret (.bool (badP x p)), S.put b (.cells [.int .i64 (endI p)])) := by
 rw [call_func (by rfl), bad_run x p hS]; rfl
def lastAt (x : Int) (l : List PartV) (k : Nat) : Int := (l.take k).foldl (fun _ p => endI p) x
theorem lastAt_succ {x : Int} {l : List PartV} {k : Nat} {p : PartV} (h : l[k]? = some p) : lastAt x l (k + 1) = endI p := by
 have hlt := (List.getElem?_eq_some_iff.1 h).1
 have : l[k] = p := (List.getElem?_eq_some_iff.1 h).2
 unfold lastAt
 rw [List.take_succ_eq_append_getElem hlt, List.foldl_append, this]; rfl
def pBad : Int → List PartV → Bool
 | _, [] => false
 | x, p :: l => badP x p || pBad (endI p) l
theorem pBad_none : ∀ {l : List PartV} {x : Int}, (∀ k, k < l.length → ¬ ∃ p, l[k]? = some p ∧ badP (lastAt x l k) p = true) → pBad x l = false
 | [], _, _ => rfl
 | p :: l, x, h => by
  have h0 : badP x p = false := by
   have := h 0 (by simp)
   cases hb : badP x p with
   | false => rfl
   | true => exact absurd ⟨p, rfl, hb⟩ this
  have hr : pBad (endI p) l = false := pBad_none fun k hk ⟨q, hq, hb⟩ => h (k + 1) (by simpa using hk) ⟨q, by simpa using hq, hb⟩
  simp [pBad, h0, hr]
theorem pBad_some : ∀ {l : List PartV} {x : Int} {m : Nat} {p : PartV}, l[m]? = some p → badP (lastAt x l m) p = true → pBad x l = true
 | [], _, _, _, h, _ => by simp at h
 | q :: l, x, 0, p, h, hb => by
  simp only [List.getElem?_cons_zero, Option.some.injEq] at h
  subst h
  have : badP x q = true := hb
  simp [pBad, this]
 | q :: l, x, m + 1, p, h, hb => by
  have := pBad_some (l := l) (x := endI q) (m := m) (p := p) (by simpa using h) hb
  simp [pBad, this]
theorem partsBad_run {n b : Nat} (o : Option (List PartV)) (x : Int) (hl : (ol o).length < 2 ^ 30) (hN : (ol o).length < N) (hS : S.get b = some (.cells [.int .i64 x])) :
  ∃ r y : Int, runFn Try.prog (handler Try.prog ppol (n + 2)) N ppol 82 .none [sv false 2 partRow o, .fn (.func 65) [] [.ptr b 0]] S = some (.ret (.int .i64 r), .none, S.put b (.cells [.int .i64 y])) ∧ (0 ≤ r ↔ pBad x (ol o) = true) := by
 rcases first_or_all (fun k => ∃ p, (ol o)[k]? = some p ∧ badP (lastAt x (ol o) k) p = true) (ol o).length with ⟨m, h1, ⟨p, h2, h4⟩, h3⟩ | h
 ·refine ⟨m, endI p, ?_, by simp [pBad_some h2 h4]⟩
  rw [runFn_eq Try.func82 (by rfl)]
  simp [Try.f82]
  rw [loop_go (fun k => { env := envOf 19 [(0, sv false 2 partRow o), (1, .fn (.func 65) [] [.ptr b 0]), (7, .int .i64 (ol o).length), (8, .int .i64 k)], defs := [], par := .none, S := S.put b (.cells [.int .i64 (lastAt x (ol o) k)]) }) m (by omega)]
  ·simp [h1, index_sv Try.underlying22 tycells45 _ h2, bad_call (lastAt x (ol o) m) p (get_put_self hS), h4]
  ·simp [lastAt, put_self hS]
  ·intro k hk
   have hkl : k < (ol o).length := by omega
   obtain ⟨q, hq⟩ : ∃ q, (ol o)[k]? = some q := ⟨_, List.getElem?_eq_getElem hkl⟩
   have hb : badP (lastAt x (ol o) k) q = false := by
    cases hb : badP (lastAt x (ol o) k) q with
    | false => rfl
    | true => exact absurd ⟨q, hq, hb⟩ (h3 k hk)
   have g7 : IntKind.i64.wrap ((k : Int) + 1) = (k : Int) + 1 := wrap_succ hkl (by omega)
   simp [hkl, index_sv Try.underlying22 tycells45 _ hq, bad_call (lastAt x (ol o) k) q (get_put_self hS), hb, g7, lastAt_succ hq]
 ·refine ⟨-1, lastAt x (ol o) (ol o).length, ?_, by simp [pBad_none h]⟩
  rw [runFn_eq Try.func82 (by rfl)]
  simp [Try.f82]
  rw [loop_go (fun k => { env := envOf 19 [(0, sv false 2 partRow o), (1, .fn (.func 65) [] [.ptr b 0]), (7, .int .i64 (ol o).length), (8, .int .i64 k)], defs := [], par := .none, S := S.put b (.cells [.int .i64 (lastAt x (ol o) k)]) }) (ol o).length (by omega)]
  ·simp
  ·simp [lastAt, put_self hS]
  ·intro k hkl
   obtain ⟨q, hq⟩ : ∃ q, (ol o)[k]? = some q := ⟨_, List.getElem?_eq_getElem hkl⟩
   have hb : badP (lastAt x (ol o) k) q = false := by
    cases hb : badP (lastAt x (ol o) k) q with
    | false => rfl
    | true => exact absurd ⟨q, hq, hb⟩ (h k hkl)
   have g7 : IntKind.i64.wrap ((k : Int) + 1) = (k : Int) + 1 := wrap_succ hkl (by omega)
   simp [hkl, index_sv Try.underlying22 tycells45 _ hq, bad_call (lastAt x (ol o) k) q (get_put_self hS), hb, g7, lastAt_succ hq]
theorem right2_run {n a b : Nat} (f : FileV) (x : Int) (hl : (ol f.parts).length < 2 ^ 30) (hn : (ol f.parts).length < n) (ha : S.get a = some (.cells (fileC f))) (hb : S.get b = some (.cells [.int .i64 x])) :
  ∃ y : Int, runFn Try.prog (handler Try.prog ppol (n + 4)) N ppol 63 .none [.ptr a 0, .ptr b 0] S = some (.ret (.bool !pBad x (ol f.parts)), .none, S.put b (.cells [.int .i64 y])) := by
 obtain ⟨r, y, h1, h2⟩ := partsBad_run (n := n) (N := n + 2) (S := S) f.parts x hl (by omega) hb
 have h3 : (handler Try.prog ppol (n + 3)).call (.func 82) [sv false 2 partRow f.parts, .fn (.func 65) [] [.ptr b 0]] S = some (.ret (.int .i64 r), S.put b (.cells [.int .i64 y])) := by
  rw [call_func (by rfl), h1]; rfl
 have h4 : (handler Try.prog ppol (n + 4)).call (.func 64) [sv false 2 partRow f.parts, .fn (.func 65) [] [.ptr b 0]] S = some (.ret (.bool (pBad x (ol f.parts))), S.put b (.cells [.int .i64 y])) := by
  rw [call_func (by rfl), runFn_eq Try.func64 (by rfl)]
  simp [Try.f64, h3, h2]
 refine ⟨y, ?_⟩
 rw [runFn_eq Try.func63 (by rfl)]
 simp [Try.f63, ha, fileC, h4]
end Go.Ab.Seat
namespace Go.Ab.Seat
open Go.Proofs
set_option maxRecDepth 100000
set_option maxHeartbeats 4000000
variable {H : Handler} {N : Nat} {S : Sto}
def nmAt (l : List SymV) (i : Nat) : Bool := match l[i]? with
 | none => true
 | some s => nameOk s.name && decide (0 ≤ s.at') && decide (s.at' ≤ 2048) && (decide (i = 0) || match l[i - 1]? with | some q => Op.bytesLess q.name s.name | none => true)
def namesOk (l : List SymV) : Bool := (List.range l.length).all (nmAt l)
structure NmI (S : Sto) (l : List SymV) where
 k : Nat
 S' : Sto
 hk : k ≤ l.length
 hb : ∀ j, j < k → nmAt l j = true
 hg : Grew [] S S'
def NmE (S : Sto) (a : Nat) (o : Option (List SymV)) (i : NmI S (ol o)) : St := { env := envOf 43 [(0, .ptr a 0), (5, sv false 2 symRow o), (6, .int .i64 (ol o).length), (7, .int .i64 i.k)], defs := [], par := .none, S := i.S' }
def NmT (S : Sto) (l : List SymV) (r : AExit × St) : Prop :=
 r.2.defs = [] ∧ r.2.par = .none ∧ Grew [] S r.2.S ∧ ((r.1 = .exit 0 ∧ r.2.env.length = 43 ∧ namesOk l = true) ∨ (r.1 = .ret ∧ getT r.2.env 1 = .bool false ∧ namesOk l = false))
theorem nm_all {l : List SymV} (h : ∀ j, j < l.length → nmAt l j = true) : namesOk l = true := by
 unfold namesOk
 rw [List.all_eq_true]
 exact fun j hj => h j (List.mem_range.1 hj)
theorem nm_not {l : List SymV} {j : Nat} (hj : j < l.length) (h : nmAt l j = false) : namesOk l = false := by
 unfold namesOk
 rw [List.all_eq_false]
 exact ⟨j, List.mem_range.2 hj, by simp [h]⟩
theorem right3_run {n a : Nat} (f : FileV) (hl : (ol f.names).length < 2 ^ 30) (hN : (ol f.names).length < N) (hn : 400 < n) (ha : S.get a = some (.cells (fileC f))) (hlt : a < S.next) :
  ∃ S', runFn Try.prog (handler Try.prog ppol (n + 4)) N ppol 66 .none [.ptr a 0] S = some (.ret (.bool (namesOk (ol f.names))), .none, S') ∧ Grew [] S S' := by
 rw [runFn_eq Try.func66 (by rfl)]
 simp [Try.f66, ha, fileC]
 generalize hL : loopN _ _ _ _ = L
 obtain ⟨x, st', rfl, hT⟩ := loop_fam' hL (NmE S a f.names) (fun _ => NmT S (ol f.names)) (fun i => (ol f.names).length - i.k) ⟨0, S, by omega, fun j hj => by omega, Grew.refl _ _⟩ (by show _ - 0 < N; omega) (by simp [NmE]) (fun i => by
  obtain ⟨k, S1, hk, hb, hg⟩ := i
  clear hL
  have ha1 : S1.get a = some (.cells (fileC f)) := (hg.get a hlt (by simp)).trans ha
  by_cases hkl : k < (ol f.names).length
  ·obtain ⟨s, hks⟩ : ∃ s, (ol f.names)[k]? = some s := ⟨_, List.getElem?_eq_getElem hkl⟩
   obtain ⟨S2, hc, hg2⟩ := name_any (n := n) (S := S1) s.name (by omega)
   have ha2 : S2.get a = some (.cells (fileC f)) := (hg2.get a (Nat.lt_of_lt_of_le hlt hg.next) (by simp)).trans ha1
   have g7 : IntKind.i64.wrap ((k : Int) + 1) = (k : Int) + 1 := wrap_succ hkl (by omega)
   have hgg : Grew [] S S2 := hg.trans hg2
   have hnm : nmAt (ol f.names) k = (nameOk s.name && decide (0 ≤ s.at') && decide (s.at' ≤ 2048) && (decide (k = 0) || match (ol f.names)[k - 1]? with | some q => Op.bytesLess q.name s.name | none => true)) := by
    unfold nmAt; rw [hks]
   have hF : nmAt (ol f.names) k = false → NmT S (ol f.names) = NmT S (ol f.names) := fun _ => rfl
   cases hok : nameOk s.name
   ·have hfl := nm_not hkl (by rw [hnm, hok]; rfl)
    rw [hok] at hc
    simp [NmE, hkl, index_sv Try.underlying23 tycells64 _ hks, symRow, writeCells]
    rw [evDraw_go]
    ·simp [hc, NmT, hgg, hfl]
    ·kernel_rfl
   ·rw [hok] at hc hnm
    by_cases c1 : s.at' < 0
    ·have d1 : decide (0 ≤ s.at') = false := by rw [decide_eq_false_iff_not]; omega
     have hfl := nm_not hkl (by rw [hnm, d1]; rfl)
     simp [NmE, hkl, index_sv Try.underlying23 tycells64 _ hks, symRow, writeCells]
     rw [evDraw_go]
     ·simp [hc, NmT, hgg, hfl, c1]
     ·kernel_rfl
    ·have d1 : decide (0 ≤ s.at') = true := by rw [decide_eq_true_iff]; omega
     by_cases c2 : 2048 < s.at'
     ·have d2 : decide (s.at' ≤ 2048) = false := by rw [decide_eq_false_iff_not]; omega
      have hfl := nm_not hkl (by rw [hnm, d1, d2]; rfl)
      simp [NmE, hkl, index_sv Try.underlying23 tycells64 _ hks, symRow, writeCells]
      rw [evDraw_go]
      ·simp [hc, NmT, hgg, hfl, c1, c2]
      ·kernel_rfl
     ·have d2 : decide (s.at' ≤ 2048) = true := by rw [decide_eq_true_iff]; omega
      rw [d1, d2] at hnm
      by_cases c3 : k = 0
      ·subst c3
       have hi0 := index_sv (own := false) (g := symRow) Try.underlying23 tycells64 .i64 hks
       rw [show ((0 : Nat) : Int) = 0 from rfl] at hi0 g7
       simp [NmE, hkl, hi0, symRow, writeCells]
       rw [evDraw_go]
       ·simp [hc, c1, c2]
        refine ⟨⟨1, S2, hkl, fun j hj => ?_, hgg⟩, ?_, ?_⟩
        ·have : j = 0 := by omega
         rw [this, hnm]; rfl
        ·show _ - 1 < _ - 0; omega
        ·simp [NmE]; exact Go.IntWalk.i64_in _ (by omega)
       ·kernel_rfl
      ·have c3' : 0 < k := by omega
       obtain ⟨q, hkq⟩ : ∃ q, (ol f.names)[k - 1]? = some q := ⟨_, List.getElem?_eq_getElem (by omega)⟩
       have g8 : IntKind.i64.wrap ((k : Int) - 1) = ((k - 1 : Nat) : Int) := by
        rw [show (k : Int) - 1 = ((k - 1 : Nat) : Int) by omega]; exact Go.IntWalk.i64_in _ (by omega)
       rw [hkq] at hnm
       cases hless : Op.bytesLess q.name s.name
       ·have hfl := nm_not hkl (by rw [hnm]; simp [c3, hless])
        simp [NmE, hkl, index_sv Try.underlying23 tycells64 _ hks, symRow, writeCells]
        rw [evDraw_go]
        ·simp [hc, c1, c2, c3', g8, ha2, fileC, index_sv Try.underlying23 tycells64 _ hkq, symRow, hless, NmT, hgg, hfl]
        ·kernel_rfl
       ·simp [NmE, hkl, index_sv Try.underlying23 tycells64 _ hks, symRow, writeCells]
        rw [evDraw_go]
        ·simp [hc, c1, c2, c3', g8, ha2, fileC, index_sv Try.underlying23 tycells64 _ hkq, symRow, hless]
         refine ⟨⟨k + 1, S2, hkl, fun j hj => ?_, hgg⟩, ?_, ?_⟩
         ·by_cases e : j = k
          ·rw [e, hnm]; simp [hless]
          ·exact hb j (by omega)
         ·show _ - (k + 1) < _ - k; omega
         ·simp [NmE, g7]
        ·kernel_rfl
  ·have hkn : k = (ol f.names).length := by omega
   have hall := nm_all (l := ol f.names) (fun j hj => hb j (by omega))
   simp [NmE, hkl, NmT, hg, hall])
 clear hL
 obtain ⟨t1, t2, t3, ⟨rfl, t4, t5⟩ | ⟨rfl, t4, t5⟩⟩ := hT
 ·simp only at t1 t2 t3 t4
  refine ⟨st'.S, ?_, t3⟩
  simp [t1, t2, t5, getT_setT_self, t4]
 ·simp only at t1 t2 t3 t4
  refine ⟨st'.S, ?_, t3⟩
  simp [t1, t2, t4, t5]
end Go.Ab.Seat
namespace Go.Ab
variable {P : Program} {H : Handler} {pol : Pol} {f : FuncId} {N : Nat}
theorem loop_step {keep : Option (List Bool)} {body : St → Option (AExit × St)} {st : St} : loopN keep body (N + 1) st = contK (body (st.masked keep)) (loopN keep body N) := (rfl)
theorem contK_normal (st : St) (k : St → Option (AExit × St)) : contK (some (.normal, st)) k = k st := (rfl)
theorem get_new_eq {S : Sto} {o : Obj} {id : Nat} (h : id = S.next) : (S.new o).get id = some o := by subst h; exact get_new_self S o
theorem put_new_eq {S : Sto} {o o' : Obj} {id : Nat} (h : id = S.next) : (S.new o).put id o' = S.new o' := by subst h; simp [Sto.put, Sto.new, Sto.putIn]
attribute [simp] contK_normal get_new_eq put_new_eq get_new_ne
end Go.Ab
namespace Go.Ab.Seat
open Go.Proofs
set_option maxRecDepth 100000
set_option maxHeartbeats 2000000
variable {H : Handler} {N : Nat} {S : Sto}
theorem ifneq (v : AV) : binA Try.prog .neq 20 true (.iface 29 v) .niliface = some (.bool true) := by kernel_rfl
theorem ifneq0 : binA Try.prog .neq 20 true .niliface .niliface = some (.bool false) := by kernel_rfl
theorem ifas (v : AV) : assertA Try.prog (.iface 29 v) 29 true = some (.tup [v, .bool true]) := by simp [assertA]
theorem caught_ret {n : Nat} (args : List AV) (e : Nat) (g : FuncId) (first cap : List AV) (h : args = [.ptr e 0, .fn (.func g) first cap]) : (handler Try.prog ppol (n + 1)).callD 30 args .returning S = some (.ret .undef, .returning, S) := by
 subst h
 rw [callD_eq, runFn_eq Try.func30 (by rfl)]
 simp [Try.f30, ifneq0]
theorem caught_pan {n e : Nat} {S1 : Sto} {x v : AV} (g : FuncId) (cap : List AV) (k : Int) (hc : (handler Try.prog ppol n).call (.func g) cap S = some (.ret v, S1)) (he : S1.get e = some (.cells [x])) :
  (handler Try.prog ppol (n + 1)).callD 30 [.ptr e 0, .fn (.func g) [] cap] (.panicking [⟨.iface 29 (.int .i64 k), false⟩]) S = some (.ret .undef, .panicking [⟨.iface 29 (.int .i64 k), true⟩], S1.put e (.cells [.int .i64 k])) := by
 rw [callD_eq, runFn_eq Try.func30 (by rfl)]
 simp [Try.f30, ifneq, ifas, hc, he, writeCells]
def rightOk (f : FileV) : Bool := sizesOk f && !pBad 0 (ol f.parts) && namesOk (ol f.names)
structure Small (f : FileV) (n : Nat) : Prop where
 parts : (ol f.parts).length ≤ 6000
 names : (ol f.names).length ≤ 6000
 big : 6400 < n
theorem Small.up {f : FileV} {n m : Nat} (h : Small f n) (hm : n ≤ m) : Small f m := ⟨h.parts, h.names, Nat.lt_of_lt_of_le h.big hm⟩
theorem right_run {n : Nat} (f : FileV) (h : Small f n) :
  ∃ S', runFn Try.prog (handler Try.prog ppol (n + 5)) (N + 4) ppol 32 .none [.agg (fileC f)] S = some (if rightOk f then .ret .undef else errPan, .none, S') ∧ Grew [] S S' := by
 obtain ⟨h1, h2, h4⟩ := h
 have hg0 : Grew [] S ((S.new (.cells (fileC f))).new (.cells [.int .i64 0])) := (Grew.new _ _ (.cells (fileC f)) (goodFile f)).trans (Grew.new _ _ _ (by simp))
 have ha : ((S.new (.cells (fileC f))).new (.cells [.int .i64 0])).get S.next = some (.cells (fileC f)) := by
  rw [get_new_ne (by simp)]; exact get_new_self _ _
 have hb : ((S.new (.cells (fileC f))).new (.cells [.int .i64 0])).get (S.next + 1) = some (.cells [.int .i64 0]) := get_new_self _ _
 rw [runFn_eq Try.func32 (by rfl)]
 simp [Try.f32, writeCells, buildSliceA, fillRows, lenA]
 generalize hS2 : (S.new (.cells (fileC f))).new (.cells [.int .i64 0]) = S2 at *
 have hn2 : S2.next = S.next + 2 := by rw [← hS2]; rfl
 have c1 : (handler Try.prog ppol (n + 5)).call (.func 62) [.ptr S.next 0] S2 = some (.ret (.bool (sizesOk f)), S2) := by
  rw [call_func (by rfl), right1_run f ha]; rfl
 obtain ⟨y, e2⟩ := right2_run (n := n) (N := n + 4) f 0 (by omega) (by omega) ha hb
 have c2 : (handler Try.prog ppol (n + 5)).call (.func 63) [.ptr S.next 0, .ptr (S.next + 1) 0] S2 = some (.ret (.bool !pBad 0 (ol f.parts)), S2.put (S.next + 1) (.cells [.int .i64 y])) := by
  rw [call_func (by rfl), e2]; rfl
 have ha3 : (S2.put (S.next + 1) (.cells [.int .i64 y])).get S.next = some (.cells (fileC f)) := by rw [get_put_ne (by omega)]; exact ha
 obtain ⟨S4, e3, hg4⟩ := right3_run (n := n) (N := n + 4) f (by omega) (by omega) (by omega) ha3 (by rw [next_put]; omega)
 have c3 : (handler Try.prog ppol (n + 5)).call (.func 66) [.ptr S.next 0] (S2.put (S.next + 1) (.cells [.int .i64 y])) = some (.ret (.bool (namesOk (ol f.names))), S4) := by
  rw [call_func (by rfl), e3]; rfl
 have hg3 : Grew [] S (S2.put (S.next + 1) (.cells [.int .i64 y])) := hg0.behind (Grew.put (x := [S.next + 1]) _ _ (.inl (by simp)) (by simp)) (by simp)
 have hr : rightOk f = (sizesOk f && !pBad 0 (ol f.parts) && namesOk (ol f.names)) := rfl
 rw [loop_step]
 cases k1 : sizesOk f <;> rw [k1] at c1 hr
 ·refine ⟨S2, ?_, hg0⟩
  simp [indexAddrA, c1, must_call, hr, errPan]
 ·simp [indexAddrA, c1, must_call]
  rw [loop_step]
  cases k2 : pBad 0 (ol f.parts) <;> rw [k2] at c2 hr
  ·have w1 : IntKind.i64.wrap 1 = 1 := Go.IntWalk.i64_in _ (by omega)
   have w2 : IntKind.i64.wrap 2 = 2 := Go.IntWalk.i64_in _ (by omega)
   have w3 : IntKind.i64.wrap 3 = 3 := Go.IntWalk.i64_in _ (by omega)
   simp only [Bool.not_false] at c2
   simp [indexAddrA, c2, must_call, w1, w2]
   rw [loop_step]
   cases k3 : namesOk (ol f.names) <;> rw [k3] at c3 hr
   ·refine ⟨S4, ?_, hg3.trans hg4⟩
    simp [indexAddrA, c3, must_call, hr, errPan]
   ·refine ⟨S4, ?_, hg3.trans hg4⟩
    simp [indexAddrA, c3, must_call, hr, w3]
    rw [loop_step]
    simp
  ·have w1 : IntKind.i64.wrap 1 = 1 := Go.IntWalk.i64_in _ (by omega)
   refine ⟨S2.put (S.next + 1) (.cells [.int .i64 y]), ?_, hg3⟩
   simp only [Bool.not_true] at c2
   simp [indexAddrA, c2, must_call, hr, errPan, w1]
theorem right_call {n : Nat} (f : FileV) (h : Small f n) :
  ∃ S', (handler Try.prog ppol (n + 6)).call (.func 32) [.agg (fileC f)] S = some (if rightOk f then .ret .undef else errPan, S') ∧ Grew [] S S' := by
 obtain ⟨S', e, hg⟩ := right_run (n := n) (N := n + 1) (S := S) f h
 exact ⟨S', by rw [call_func (by rfl), e]; rfl, hg⟩
theorem check_run {n : Nat} (f : FileV) (h : Small f n) :
  ∃ S', runFn Try.prog (handler Try.prog ppol (n + 6)) N ppol 27 .none [.agg (fileC f)] S = some (.ret (.int .i64 (if rightOk f then 0 else 310)), .none, S') ∧ Grew [] S S' := by
 obtain ⟨S', e, hg⟩ := right_call (n := n) (S := S.new (.cells [.int .i64 0])) f h
 have hget : S'.get S.next = some (.cells [.int .i64 0]) := (hg.get _ (by simp [next_new]) (by simp)).trans (get_new_self _ _)
 have hg1 : Grew [] S S' := (Grew.new _ _ _ (by simp)).trans hg
 rw [runFn_eq Try.func27 (by rfl)]
 cases k : rightOk f <;> rw [k] at e
 ·refine ⟨S'.put S.next (.cells [.int .i64 310]), ?_, hg1.behind (Grew.put (x := [S.next]) _ _ (.inl (by simp)) (by simp)) (by simp)⟩
  have hc : (handler Try.prog ppol (n + 5)).call (.func 58) [] S' = some (.ret .undef, S') := by
   rw [call_func (by rfl), runFn_eq Try.func58 (by rfl)]; simp [Try.f58]
  have hp := caught_pan (n := n + 5) (S := S') (S1 := S') 58 [] 310 hc hget
  simp [Try.f27, e, errPan, hp, get_put_self hget, takeCells_eq, isAggV]
 ·refine ⟨S', ?_, hg1⟩
  have hq := caught_ret (n := n + 5) (S := S') _ S.next 58 [] [] rfl
  simp [Try.f27, e, hget, writeCells, put_self hget, hq, takeCells_eq, isAggV]
theorem check_call {n : Nat} (f : FileV) (h : Small f n) :
  ∃ S', (handler Try.prog ppol (n + 7)).call (.func 27) [.agg (fileC f)] S = some (.ret (.int .i64 (if rightOk f then 0 else 310)), S') ∧ Grew [] S S' := by
 obtain ⟨S', e, hg⟩ := check_run (n := n) (N := n + 6) (S := S) f h
 exact ⟨S', by rw [call_func (by rfl), e]; rfl, hg⟩
end Go.Ab.Seat
namespace Go.Ab
variable {P : Program} {H : Handler} {pol : Pol} {f : FuncId} {N : Nat}
theorem loadA_aptr {S : Sto} {env : List AV} {t : TypeId} {id r off es : Nat} {rows : List (List AV)} {row : List AV} (h : S.get id = some (.arr es rows)) (hr : rows[r]? = some row) : loadA P S env t (.aptr id r off) = valAt P t (row.drop off) := by
 simp only [loadA, h, hr]
theorem storeS_aptr {st : St} {t : TypeId} {id r off es : Nat} {rows : List (List AV)} {row row' : List AV} {v : AV} (h : st.S.get id = some (.arr es rows)) (hr : rows[r]? = some row) (hw : writeCells P t off row v.strip1 = some row') (hrow : row' = row) : storeS P t (.aptr id r off) v st = some (.val .undef st) := by
 subst hrow
 have e1 : rows.set r row' = rows := by
  have hlt := (List.getElem?_eq_some_iff.1 hr).1
  have he := (List.getElem?_eq_some_iff.1 hr).2
  rw [← he]; exact List.set_getElem_self hlt
 simp only [storeS, h, hr, hw, Option.map_some, e1, put_self h]
theorem index_rsl {t e : TypeId} {id es len : Nat} {i : Nat} {k : IntKind} (ht : P.underlying t = some (.slice e)) (he : P.cellsOf e = es) (h : i < len) (h0 : 0 < es) : indexAddrA P t (.rsl id es 0 len) (.int k i) = some (.aptr id i 0) := by
 subst he
 simp only [indexAddrA, ht]
 rw [if_pos ⟨by omega, by omega, by simp, h0⟩]
 simp
inductive SlV {X : Type} (S : Sto) (es : Nat) (g : X → List AV) (lo : Nat) : Option (List X) → AV → Prop
 | nil : SlV S es g lo none .nilsl
 | arr {xs : List X} {id : Nat} (h : S.get id = some (.arr es (xs.map g))) (hlo : lo ≤ id) (hid : id < S.next) : SlV S es g lo (some xs) (.rsl id es 0 xs.length)
theorem SlV.mono {X : Type} {S S' : Sto} {es : Nat} {g : X → List AV} {lo : Nat} {o : Option (List X)} {v : AV} {x : List Nat} (h : SlV S es g lo o v) (hg : Grew x S S') (hx : ∀ a ∈ x, a < lo ∨ S.next ≤ a) : SlV S' es g lo o v := by
 cases h with
 | nil => exact .nil
 | arr h hlo hid =>
  refine .arr ?_ hlo (Nat.lt_of_lt_of_le hid hg.next)
  rw [hg.get _ hid (fun hm => by have := hx _ hm; omega)]; exact h
theorem SlV.lower {X : Type} {S : Sto} {es : Nat} {g : X → List AV} {lo lo' : Nat} {o : Option (List X)} {v : AV} (h : SlV S es g lo o v) (hl : lo' ≤ lo) : SlV S es g lo' o v := by
 cases h with
 | nil => exact .nil
 | arr h hlo hid => exact .arr h (Nat.le_trans hl hlo) hid
theorem app_heap_nil {st xt e : TypeId} {es : Nat} {d : TypeDesc} {v : AV} {s : St} {z : AV} {id : Nat} (h1 : P.underlying st = some (.slice e)) (h2 : P.underlying xt = some d) (hd : ∀ k, d ≠ .int k) (hz : zeroA P e = some z) (hzl : z.cells.length = es) (hes : P.cellsOf e = es)
  (hm : rowsIn s.S es v = some []) : appendS P 2 st xt (.rsl id es 0 0) v s = some (.val (.rsl id es 0 0) s) := by
 subst hes
 unfold appendS
 simp only [h1, hz, if_pos hzl]
 rw [if_neg (show ¬ (2 = 0) by decide), more_slice h2 hd, hm]
 rfl
theorem app_heap_cons {st xt e : TypeId} {es : Nat} {d : TypeDesc} {m : List AV} {more : List (List AV)} {v : AV} {s : St} {z : AV} {id : Nat} (h1 : P.underlying st = some (.slice e)) (h2 : P.underlying xt = some d) (hd : ∀ k, d ≠ .int k) (hz : zeroA P e = some z) (hzl : z.cells.length = es) (hes : P.cellsOf e = es)
  (hm : rowsIn s.S es v = some (m :: more)) (hb : ¬ bigA P e (more.length + 1)) (hg : s.S.get id = some (.arr es [])) : appendS P 2 st xt (.rsl id es 0 0) v s = some (.val (.rsl s.S.next es 0 (more.length + 1)) { s with S := (s.S.drop id).new (.arr es (m :: more)) }) := by
 subst hes
 unfold appendS
 simp only [h1, hz, if_pos hzl]
 rw [if_neg (show ¬ (2 = 0) by decide), more_slice h2 hd, hm]
 simp only [if_true, appHeap, hg]
 rw [if_neg (by simpa using hb), if_neg (by simp), if_pos (by simp)]
 simp
end Go.Ab
namespace Go.Ab.Seat
open Go.Proofs
set_option maxRecDepth 100000
set_option maxHeartbeats 2000000
variable {H : Handler} {N : Nat} {S : Sto}
theorem goodR {X : Type} {g : X → List AV} (hg : ∀ x, sameL (g x) (g x) = true) (e : Nat) (l : List X) : goodO (.arr e (l.map g)) = true := by
 rw [good_arr]; exact sameR_map hg l
theorem not_big45 (n : Nat) (h : n < 2 ^ 30) : ¬ bigA Try.prog 45 n := by
 unfold bigA
 simp
 omega
theorem not_big64 (n : Nat) (h : n < 2 ^ 30) : ¬ bigA Try.prog 64 n := by
 unfold bigA
 simp
 omega
theorem cloneP_run (o : Option (List PartV)) (hb : (ol o).length < 2 ^ 30) : ∃ v S', runFn Try.prog H N ppol 76 .none [sv false 2 partRow o] S = some (.ret v, .none, S') ∧ Grew [] S S' ∧ SlV S' 2 partRow S.next o v := by
 rw [runFn_eq Try.func76 (by rfl)]
 cases o with
 | none => exact ⟨.nilsl, S, by simp [Try.f76, sv], Grew.refl _ _, .nil⟩
 | some xs =>
  have hg1 : Grew [] S (S.new (.arr 2 [])) := Grew.new _ _ _ rfl
  cases xs with
  | nil =>
   refine ⟨.rsl S.next 2 0 0, S.new (.arr 2 []), ?_, hg1, .arr (xs := []) (get_new_self _ _) (Nat.le_refl _) (by simp [next_new])⟩
   simp [Try.f76, buildSliceA, fillRows, asArr]
   rw [app_heap_nil (es := 2) Try.underlying22 Try.underlying22 (by simp) tyzero45 rfl tycells45 ?_]
   ·simp
   ·simp [ol]
  | cons x xs =>
   refine ⟨.rsl (S.next + 1) 2 0 (xs.length + 1), ((S.new (.arr 2 [])).drop S.next).new (.arr 2 ((x :: xs).map partRow)), ?_, ?_, .arr (xs := x :: xs) (get_new_self _ _) (by omega) (by simp [next_new])⟩
   ·simp [Try.f76, buildSliceA, fillRows, asArr]
    rw [app_heap_cons (es := 2) (m := partRow x) (more := xs.map partRow) Try.underlying22 Try.underlying22 (by simp) tyzero45 rfl tycells45 ?_ (not_big45 _ (by simpa [ol] using hb)) ?_]
    ·simp
    ·simp [ol]
    ·simp
   ·exact (hg1.behind (Grew.drop (x := [S.next]) _ (.inl (by simp))) (by simp)).trans (Grew.new _ _ _ (goodR goodPart 2 (x :: xs)))
theorem cloneS_run (o : Option (List SymV)) (hb : (ol o).length < 2 ^ 30) : ∃ v S', runFn Try.prog H N ppol 77 .none [sv false 2 symRow o] S = some (.ret v, .none, S') ∧ Grew [] S S' ∧ SlV S' 2 symRow S.next o v := by
 rw [runFn_eq Try.func77 (by rfl)]
 cases o with
 | none => exact ⟨.nilsl, S, by simp [Try.f77, sv], Grew.refl _ _, .nil⟩
 | some xs =>
  have hg1 : Grew [] S (S.new (.arr 2 [])) := Grew.new _ _ _ rfl
  cases xs with
  | nil =>
   refine ⟨.rsl S.next 2 0 0, S.new (.arr 2 []), ?_, hg1, .arr (xs := []) (get_new_self _ _) (Nat.le_refl _) (by simp [next_new])⟩
   simp [Try.f77, buildSliceA, fillRows, asArr]
   rw [app_heap_nil (es := 2) Try.underlying23 Try.underlying23 (by simp) tyzero64 rfl tycells64 ?_]
   ·simp
   ·simp [ol]
  | cons x xs =>
   refine ⟨.rsl (S.next + 1) 2 0 (xs.length + 1), ((S.new (.arr 2 [])).drop S.next).new (.arr 2 ((x :: xs).map symRow)), ?_, ?_, .arr (xs := x :: xs) (get_new_self _ _) (by omega) (by simp [next_new])⟩
   ·simp [Try.f77, buildSliceA, fillRows, asArr]
    rw [app_heap_cons (es := 2) (m := symRow x) (more := xs.map symRow) Try.underlying23 Try.underlying23 (by simp) tyzero64 rfl tycells64 ?_ (not_big64 _ (by simpa [ol] using hb)) ?_]
    ·simp
    ·simp [ol]
    ·simp
   ·exact (hg1.behind (Grew.drop (x := [S.next]) _ (.inl (by simp))) (by simp)).trans (Grew.new _ _ _ (goodR goodSym 2 (x :: xs)))
end Go.Ab.Seat
namespace Go.Ab
variable {P : Program}
theorem storeS_arr {env : List AV} {defs : List ADef} {par : AMode} {S : Sto} {t : TypeId} {id r off es : Nat} {rows : List (List AV)} {row : List AV} {v : AV} (h : S.get id = some (.arr es rows)) (hr : rows[r]? = some row) (hw : writeCells P t off row v.strip1 = some row) :
  storeS P t (.aptr id r off) v { env := env, defs := defs, par := par, S := S } = some (.val .undef { env := env, defs := defs, par := par, S := S }) := storeS_aptr h hr hw rfl
end Go.Ab
namespace Go.Ab.Seat
open Go.Proofs
set_option maxRecDepth 100000
set_option maxHeartbeats 2000000
variable {H : Handler} {N : Nat} {S : Sto}
theorem clone_call {n : Nat} (own : Bool) (o : Option (List UInt8)) (hb : (ol o).length < 2 ^ 40) : (handler Try.prog ppol (n + 1)).call (.func 39) [sv own 1 byteRow o] S = some (.ret (sv true 1 byteRow o), S) := by
 rw [call_func (by rfl), clone_run own o hb]; rfl
theorem own_run {n : Nat} (f : FileV) (hk : SOK S) (h1 : (ol f.parts).length < 2 ^ 30) (h2 : (ol f.names).length < 2 ^ 30) (hN : (ol f.parts).length < N) (hp : ∀ p ∈ ol f.parts, (ol p.bytes).length < 2 ^ 40) :
  ∃ v w S', runFn Try.prog (handler Try.prog ppol (n + 2)) N ppol 49 .none [.agg (fileC f)] S = some (.ret (.agg [v, w]), .none, S') ∧ Grew [] S S' ∧ SlV S' 2 partRow S.next f.parts v ∧ SlV S' 2 symRow S.next f.names w := by
 obtain ⟨v, S1, e1, hg1, hv⟩ := cloneP_run (H := handler Try.prog ppol (n + 1)) (N := n + 1) (S := S) f.parts h1
 obtain ⟨w, S2, e2, hg2, hw⟩ := cloneS_run (H := handler Try.prog ppol (n + 1)) (N := n + 1) (S := S1) f.names h2
 have c1 : (handler Try.prog ppol (n + 2)).call (.func 76) [sv false 2 partRow f.parts] S = some (.ret v, S1) := by
  rw [call_func (by rfl), e1]; rfl
 have c2 : (handler Try.prog ppol (n + 2)).call (.func 77) [sv false 2 symRow f.names] S1 = some (.ret w, S2) := by
  rw [call_func (by rfl), e2]; rfl
 have hg : Grew [] S S2 := hg1.trans hg2
 have hk2 : SOK S2 := hg.sok hk
 have hv2 : SlV S2 2 partRow S.next f.parts v := hv.mono hg2 (by simp)
 have hw2 : SlV S2 2 symRow S.next f.names w := hw.lower hg1.next
 refine ⟨v, w, S2, ?_, hg, hv2, hw2⟩
 have hw0 : w.strip0 = w ∧ okTop w = true ∧ w.cells = [w] ∧ w.clr = w ∧ w.noLp = w ∧ w.strip = w ∧ isAggV w = false ∧ (∀ (x : Option (AExit × St)), nbK w x = x) := by
  revert hw2
  generalize f.names = oo
  intro hw2
  cases hw2 <;> simp [isAggV]
 obtain ⟨w1, w2, w3, w4, w5, w6, w7, w8⟩ := hw0
 have hsk := fun x => sK_grew (α := AExit × St) hk hg1 x
 rw [runFn_eq Try.func49 (by rfl)]
 simp [Try.f49, fileC]
 rw [evDraw_go]
 ·generalize hfp : f.parts = o at *
  cases hv2 with
  | nil =>
   simp [c1, c2, hsk, w1, w2, w3, w4, w5, w6, w8, writeCells, lenA]
   rw [show N = (N - 1) + 1 by omega, loop_step]
   simp [w1, writeCells, takeCells_eq]
  | arr ha hlo hid =>
   rename_i xs id
   simp [c1, c2, hsk, w1, w2, w3, w4, w5, w6, w8, writeCells, lenA]
   simp only [ol, Option.getD_some] at h1 hN hp
   rw [loop_go (fun k => { env := envOf 32 [(1, .box [.rsl id 2 0 xs.length, w]), (2, .box [.nilsl, .nilsl]), (14, .int .i64 xs.length), (15, .int .i64 k)], defs := [], par := .none, S := S2 }) xs.length hN]
   ·simp [w1, writeCells, takeCells_eq]
   ·simp
   ·intro k hk'
    obtain ⟨p, hp1⟩ : ∃ p, xs[k]? = some p := ⟨_, List.getElem?_eq_getElem hk'⟩
    have hrow : (xs.map partRow)[k]? = some (partRow p) := by rw [List.getElem?_map, hp1]; rfl
    have hix := index_rsl (id := id) (k := .i64) (len := xs.length) Try.underlying22 tycells45 hk' (by omega)
    have hln := fun env t off => loadA_aptr (P := Try.prog) (env := env) (t := t) (off := off) ha hrow
    have hst := fun env defs par => storeS_arr (P := Try.prog) (env := env) (defs := defs) (par := par) (t := 28) (off := 1) (v := sv true 1 byteRow p.bytes) ha hrow (by simp [writeCells, partRow])
    have g7 : IntKind.i64.wrap ((k : Int) + 1) = (k : Int) + 1 := wrap_succ hk' (by omega)
    have hsk2 := fun x => sK_self (α := AExit × St) hk2 x
    have hcl := fun own => clone_call (n := n + 1) (S := S2) own p.bytes (hp p (List.mem_of_getElem? hp1))
    simp [hk']
    rw [evDraw_go]
    ·simp [w1, hix, hln, hst, hcl, hsk2, g7, partRow]
    ·kernel_rfl
 ·kernel_rfl
end Go.Ab.Seat
namespace Go.Ab.Seat
open Go.Proofs
set_option maxRecDepth 100000
set_option maxHeartbeats 2000000
variable {H : Handler} {N : Nat} {S : Sto}
theorem pBad_each : ∀ {l : List PartV} {x : Int}, pBad x l = false → ∀ p ∈ l, (ol p.bytes).length ≤ 2048
 | [], _, _, p, hp => by cases hp
 | q :: l, x, h, p, hp => by
  simp only [pBad, Bool.or_eq_false_iff] at h
  rcases List.mem_cons.1 hp with rfl | hp
  ·have := h.1
   unfold badP at this
   simp only [Bool.or_eq_false_iff, decide_eq_false_iff_not] at this
   omega
  ·exact pBad_each h.2 p hp
theorem rightOk_parts {f : FileV} (h : rightOk f = true) : pBad 0 (ol f.parts) = false := by
 unfold rightOk at h
 cases hb : pBad 0 (ol f.parts) with
 | false => rfl
 | true => rw [hb] at h; simp at h
theorem own_call {n : Nat} (f : FileV) (hk : SOK S) (h1 : (ol f.parts).length < 2 ^ 30) (h2 : (ol f.names).length < 2 ^ 30) (hN : (ol f.parts).length < n + 2) (hp : ∀ p ∈ ol f.parts, (ol p.bytes).length < 2 ^ 40) :
  ∃ v w S', (handler Try.prog ppol (n + 3)).call (.func 49) [.agg (fileC f)] S = some (.ret (.agg [v, w]), S') ∧ Grew [] S S' ∧ SlV S' 2 partRow S.next f.parts v ∧ SlV S' 2 symRow S.next f.names w := by
 obtain ⟨v, w, S', e, h⟩ := own_run (n := n) (N := n + 2) f hk h1 h2 hN hp
 exact ⟨v, w, S', by rw [call_func (by rfl), e]; rfl, h⟩
def okParts (f : FileV) : Option (List PartV) := if rightOk f then f.parts else none
theorem parts_run {n : Nat} (f : FileV) (h : Small f n) (hk : SOK S) :
  ∃ v S', runFn Try.prog (handler Try.prog ppol (n + 7)) N ppol 19 .none [.agg (fileC f)] S = some (.ret (.fn (.func 53) [] [.ptr S.next 0]), .none, S') ∧ Grew [] S S' ∧ S'.get S.next = some (.cells [v]) ∧ S.next < S'.next ∧ SlV S' 2 partRow (S.next + 1) (okParts f) v := by
 have hg0 : Grew [] S (S.new (.cells [.nilsl])) := Grew.new _ _ _ (by simp)
 obtain ⟨S1, e1, hg1⟩ := check_call (n := n) (S := S.new (.cells [.nilsl])) f h
 have hget1 : S1.get S.next = some (.cells [.nilsl]) := (hg1.get _ (by simp [next_new]) (by simp)).trans (get_new_self _ _)
 have hn1 : S.next + 1 ≤ S1.next := hg1.next
 rw [runFn_eq Try.func19 (by rfl)]
 cases hok : rightOk f <;> rw [hok] at e1
 ·refine ⟨.nilsl, S1, ?_, hg0.trans hg1, hget1, hn1, ?_⟩
  ·simp [Try.f19, e1]
  ·unfold okParts; rw [hok]; exact .nil
 ·obtain ⟨v, w, S2, e2, hg2, hv, hw⟩ := own_call (n := n + 4) (S := S1) f (hg1.sok (hg0.sok hk)) (by have := h.parts; omega) (by have := h.names; omega) (by have := h.parts; have := h.big; omega) (fun p hp => by have := pBad_each (rightOk_parts hok) p hp; omega)
  have hget2 : S2.get S.next = some (.cells [.nilsl]) := (hg2.get _ (by omega) (by simp)).trans hget1
  have hg02 : Grew [] S S2 := (hg0.trans hg1).trans hg2
  have hn2 := hg2.next
  have hv0 : v.strip0 = v ∧ okTop v = true ∧ v.cells = [v] ∧ v.clr = v ∧ v.noLp = v ∧ v.strip = v ∧ sameL [v] [v] = true := by
   revert hv
   generalize f.parts = oo
   intro hv
   cases hv <;> simp
  obtain ⟨w1, w2, w3, w4, w5, w6, w7⟩ := hv0
  have hw1 : w.strip0 = w := by
   revert hw
   generalize f.names = oo
   intro hw
   cases hw <;> simp
  have hgp : Grew [S.next] S2 (S2.put S.next (.cells [v])) := Grew.put _ _ (.inl (by simp)) (by rw [good_cells]; exact w7)
  refine ⟨v, S2.put S.next (.cells [v]), ?_, hg02.behind hgp (by simp), get_put_self hget2, by rw [next_put]; omega, ?_⟩
  ·simp [Try.f19, e1, e2, w1, w2, w3, w4, w5, w6, hw1, hget2, writeCells]
  ·unfold okParts
   rw [hok]
   exact (hv.lower hn1).mono hgp (fun a ha => by simp at ha; omega)
theorem parts_call {n : Nat} (f : FileV) (h : Small f n) (hk : SOK S) :
  ∃ v S', (handler Try.prog ppol (n + 8)).call (.func 19) [.agg (fileC f)] S = some (.ret (.fn (.func 53) [] [.ptr S.next 0]), S') ∧ Grew [] S S' ∧ S'.get S.next = some (.cells [v]) ∧ S.next < S'.next ∧ SlV S' 2 partRow (S.next + 1) (okParts f) v := by
 obtain ⟨v, S', e, h⟩ := parts_run (n := n) (N := n + 7) f h hk
 exact ⟨v, S', by rw [call_func (by rfl), e]; rfl, h⟩
structure PgI (Inv : Nat → Sto → Prop) (m : Nat) where
 k : Nat
 S1 : Sto
 hk : k ≤ m
 hI : Inv k S1
def PgE (Inv : Nat → Sto → Prop) (m : Nat) (y : Nat) (v : AV) (i : PgI Inv m) : St := { env := envOf 20 [(0, .yld y), (5, v), (6, .int .i64 m), (7, .int .i64 i.k)], defs := [], par := .none, S := i.S1 }
def PgT (Inv : Nat → Sto → Prop) (Stop : Sto → Prop) (m : Nat) (r : AExit × St) : Prop := r.1 = .exit 0 ∧ r.2.defs = [] ∧ r.2.par = .none ∧ (Inv m r.2.S ∨ Stop r.2.S)
theorem partsGo_run {n y c lo : Nat} {o : Option (List PartV)} {v : AV} (Inv : Nat → Sto → Prop) (Stop : Sto → Prop) (hc : S.get c = some (.cells [v])) (hm : (ol o).length < 2 ^ 30) (hN : (ol o).length < N) (hb : ∀ p ∈ ol o, (ol p.bytes).length < 2 ^ 40) (h0 : Inv 0 S)
  (hI : ∀ k S1, Inv k S1 → SOK S1 ∧ SlV S1 2 partRow lo o v)
  (hy : ∀ k p S1, Inv k S1 → (ol o)[k]? = some p → ∃ b S2, (handler Try.prog ppol (n + 1)).call (.yield y) [.int .i64 p.at', sv true 1 byteRow p.bytes] S1 = some (.ret (.bool b), S2) ∧ (b = true → Inv (k + 1) S2) ∧ (b = false → Stop S2)) :
  ∃ S', runFn Try.prog (handler Try.prog ppol (n + 1)) N ppol 53 .none [.yld y, .ptr c 0] S = some (.ret .undef, .none, S') ∧ (Inv (ol o).length S' ∨ Stop S') := by
 obtain ⟨-, hv⟩ := hI 0 S h0
 rw [runFn_eq Try.func53 (by rfl)]
 cases hv with
 | nil =>
  refine ⟨S, ?_, .inl h0⟩
  simp [Try.f53, hc, lenA]
  rw [show N = (N - 1) + 1 by simp [ol] at hN; omega, loop_step]
  simp
 | arr ha hlo hid =>
  rename_i xs id
  simp only [ol, Option.getD_some] at hm hN hb hy
  simp [Try.f53, hc, lenA]
  generalize hL : loopN _ _ _ _ = L
  obtain ⟨x, st', rfl, hT⟩ := loop_fam' hL (PgE Inv xs.length y (.rsl id 2 0 xs.length)) (fun _ => PgT Inv Stop xs.length) (fun i => xs.length - i.k) ⟨0, S, by omega, h0⟩ (by show _ - 0 < N; omega) (by simp [PgE]) (fun i => by
   obtain ⟨k, S1, hk, hI1⟩ := i
   clear hL
   obtain ⟨hs1, hv1⟩ := hI k S1 hI1
   by_cases hkl : k < xs.length
   ·obtain ⟨p, hp1⟩ : ∃ p, xs[k]? = some p := ⟨_, List.getElem?_eq_getElem hkl⟩
    have ha1 : S1.get id = some (.arr 2 (xs.map partRow)) := by
     cases hv1 with
     | arr h _ _ => exact h
    have hrow : (xs.map partRow)[k]? = some (partRow p) := by rw [List.getElem?_map, hp1]; rfl
    have hix := index_rsl (id := id) (k := .i64) (len := xs.length) Try.underlying22 tycells45 hkl (by omega)
    have hln := fun env t off => loadA_aptr (P := Try.prog) (env := env) (t := t) (off := off) ha1 hrow
    have g7 : IntKind.i64.wrap ((k : Int) + 1) = (k : Int) + 1 := wrap_succ hkl (by omega)
    have hsk2 := fun x => sK_self (α := AExit × St) hs1 x
    have hcl := fun own => clone_call (n := n) (S := S1) own p.bytes (hb p (List.mem_of_getElem? hp1))
    obtain ⟨b, S2, hy1, hy2, hy3⟩ := hy k p S1 hI1 hp1
    cases b
    ·simp [PgE, hkl, hix, hln, writeCells, partRow]
     rw [evDraw_go]
     ·simp [hcl, hsk2, hy1, PgT, hy3 rfl]
     ·kernel_rfl
    ·simp [PgE, hkl, hix, hln, writeCells, partRow]
     rw [evDraw_go]
     ·simp [hcl, hsk2, hy1, g7]
      refine ⟨⟨k + 1, S2, hkl, hy2 rfl⟩, ?_, ?_⟩
      ·show _ - (k + 1) < _ - k; omega
      ·simp [PgE]
     ·kernel_rfl
   ·have : k = xs.length := by omega
    subst this
    simp [PgE, PgT, hI1])
  obtain ⟨rfl, t1, t2, t3⟩ := hT
  simp only at t1 t2 t3
  refine ⟨st'.S, ?_, t3⟩
  simp [t1, t2]
end Go.Ab.Seat
namespace Go.Ab.Seat
open Go.Proofs
set_option maxRecDepth 100000
set_option maxHeartbeats 2000000
variable {H : Handler} {N : Nat} {S : Sto}
@[simp] theorem fileC_head (f : FileV) : (fileC f).head? = some (sv false 2 partRow f.parts) := (rfl)
@[simp] theorem fileC_drop1 (f : FileV) : (fileC f).drop 1 = [sv false 2 symRow f.names] := (rfl)
@[simp] theorem fileC_get1 (f : FileV) (h : 1 < (fileC f).length) : (fileC f)[1]'h = sv false 2 symRow f.names := (rfl)
@[simp] theorem partRow_get1 (p : PartV) (h : 1 < (partRow p).length) : (partRow p)[1]'h = sv false 1 byteRow p.bytes := (rfl)
@[simp] theorem symRow_get1 (p : SymV) (h : 1 < (symRow p).length) : (symRow p)[1]'h = .int .i64 p.at' := (rfl)
@[simp] theorem partRow_head (p : PartV) : (partRow p).head? = some (.int .i64 p.at') := (rfl)
@[simp] theorem partRow_drop1 (p : PartV) : (partRow p).drop 1 = [sv false 1 byteRow p.bytes] := (rfl)
@[simp] theorem symRow_head (p : SymV) : (symRow p).head? = some (.str p.name) := (rfl)
@[simp] theorem symRow_drop1 (p : SymV) : (symRow p).drop 1 = [.int .i64 p.at'] := (rfl)
def plen (p : PartV) : Nat := (ol p.bytes).length
def atN (p : PartV) : Nat := p.at'.toNat
def endN (p : PartV) : Nat := atN p + plen p
def lastN (x : Nat) (l : List PartV) : Nat := l.foldl (fun _ p => endN p) x
theorem lastN_snoc (x : Nat) (l : List PartV) (p : PartV) : lastN x (l ++ [p]) = endN p := by simp [lastN]
structure PartOk (x : Nat) (p : PartV) : Prop where
 at' : p.at' = (atN p : Int)
 ge : x ≤ atN p
 le : endN p ≤ 2048
 pos : 0 < plen p
theorem badP_no {x : Nat} {p : PartV} (h : badP (x : Int) p = false) : PartOk x p ∧ endI p = (endN p : Int) := by
 unfold badP at h
 simp only [Bool.or_eq_false_iff, decide_eq_false_iff_not] at h
 obtain ⟨⟨⟨⟨h1, h2⟩, h3⟩, h4⟩, h5⟩ := h
 have ha : p.at' = (atN p : Int) := by unfold atN; omega
 have he : endI p = (endN p : Int) := by
  unfold endI endN plen
  rw [ha, ← Int.natCast_add]
  exact Go.IntWalk.i64_in _ (by have : (atN p : Int) < 2048 := (by omega); omega)
 refine ⟨⟨ha, by omega, ?_, by unfold plen; omega⟩, he⟩
 rw [he] at h5; omega
theorem pBad_at : ∀ {l : List PartV} {x : Nat}, pBad (x : Int) l = false → ∀ {k : Nat} {p : PartV}, l[k]? = some p → PartOk (lastN x (l.take k)) p
 | [], _, _, k, p, hp => by simp at hp
 | q :: l, x, h, k, p, hp => by
  simp only [pBad, Bool.or_eq_false_iff] at h
  obtain ⟨h1, h2⟩ := badP_no h.1
  cases k with
  | zero =>
   simp only [List.getElem?_cons_zero, Option.some.injEq] at hp
   subst hp
   exact h1
  | succ k =>
   rw [h2] at h
   have := pBad_at h.2 (k := k) (p := p) (by simpa using hp)
   simpa [lastN] using this
theorem take_snoc {X : Type} {l : List X} {k : Nat} {p : X} (h : l[k]? = some p) : l.take (k + 1) = l.take k ++ [p] := by
 have hlt := (List.getElem?_eq_some_iff.1 h).1
 have : l[k] = p := (List.getElem?_eq_some_iff.1 h).2
 rw [List.take_succ_eq_append_getElem hlt, this]
end Go.Ab.Seat
namespace Go.Ab.Seat
open Go.Proofs
set_option maxRecDepth 100000
set_option maxHeartbeats 2000000
variable {H : Handler} {N : Nat} {S : Sto}
end Go.Ab.Seat
namespace Go.Ab.Seat
open Go.Proofs
set_option maxRecDepth 100000
set_option maxHeartbeats 2000000
variable {H : Handler} {N : Nat} {S : Sto}
theorem okParts_ok {f : FileV} (h : rightOk f = true) : okParts f = f.parts := by unfold okParts; rw [h]; rfl
theorem rightOk_names {f : FileV} (h : rightOk f = true) : namesOk (ol f.names) = true := by
 unfold rightOk at h
 simp only [Bool.and_eq_true] at h
 exact h.2
theorem rightOk_sizes {f : FileV} (h : rightOk f = true) : (ol f.parts).length ≤ 64 ∧ (ol f.names).length ≤ 64 := by
 unfold rightOk sizesOk at h
 simp only [Bool.and_eq_true, decide_eq_true_eq] at h
 exact h.1.1
end Go.Ab.Seat
namespace Go.Ab.Seat
open Go.Proofs
set_option maxRecDepth 100000
set_option maxHeartbeats 2000000
variable {H : Handler} {N : Nat} {S : Sto}
def optL {X : Type} (l : List X) : Option (List X) := if l.isEmpty then none else some l
theorem ol_optL {X : Type} (l : List X) : ol (optL l) = l := by cases l <;> rfl
end Go.Ab.Seat
namespace Go.Ab
end Go.Ab
namespace Go.Ab.Seat
open Go.Proofs
set_option maxRecDepth 100000
set_option maxHeartbeats 600000
variable {H : Handler} {N : Nat} {S : Sto}
theorem conv_str (o : Bool) (l : List UInt8) : convA Try.prog 28 9 (.sl o 1 (l.map byteRow)) = some (.str l) := by simp [convA]
end Go.Ab.Seat
namespace Go.Ab.Seat
open Go.Proofs
set_option maxRecDepth 100000
set_option maxHeartbeats 1000000
variable {H : Handler} {N : Nat} {S : Sto}
end Go.Ab.Seat
namespace Go.Ab.Seat
open Go.Proofs
set_option maxRecDepth 100000
set_option maxHeartbeats 1000000
end Go.Ab.Seat
namespace Go.Ab
theorem call_closed {P : Program} {pol : Pol} {f : FuncId} {n : Nat} {S : Sto} (hf : pol.free f = true) (h : (runFn P (handler P pol n) n pol f .none [] { heap := [], next := 0 }).map (fun r => r.1.isTrue) = some true) :
  (handler P pol (n + 1)).call (.func f) [] S = some (.ret (.bool true), S) := by
 simp only [handler, hf, if_true]
 cases hr : runFn P (handler P pol n) n pol f .none [] { heap := [], next := 0 } with
 | none => rw [hr] at h; cases h
 | some r =>
  obtain ⟨e, p, S'⟩ := r
  rw [hr] at h
  simp only [Option.map_some, Option.some.injEq] at h
  cases e with
  | pan ch => cases h
  | ret v =>
   cases v with
   | bool b =>
    cases b with
    | false => cases h
    | true => rfl
   | _ => cases h
end Go.Ab
namespace Go.Ab.Seat
open Go.Proofs
set_option maxRecDepth 100000
set_option maxHeartbeats 1000000
variable {H : Handler} {N : Nat} {S : Sto}
theorem few_call (f : FileV) (hN : 200 < N) : (handler Try.prog ppol N).call (.func 8) [.agg (fileC f)] S = some (.ret (.bool (fewOf f)), S) := by
 obtain ⟨n, rfl⟩ : ∃ n, N = n + 1 := ⟨N - 1, by omega⟩
 rw [call_func (by rfl), few_run f (by omega)]; rfl
theorem num_call (e : Int) (hN : 200 < N) : (handler Try.prog ppol N).call (.func 11) [.int .i64 e] S = some (.ret (.int .i64 e), S) := by
 obtain ⟨n, rfl⟩ : ∃ n, N = n + 1 := ⟨N - 1, by omega⟩
 rw [call_func (by rfl), num_run]; rfl
theorem works_runN {n : Nat} (hn : 60 ≤ n) : (runFn Try.prog (handler Try.prog ppol n) n ppol 9 .none [] { heap := [], next := 0 }).map (fun r => r.1.isTrue) = some true := by
 obtain ⟨m, rfl⟩ : ∃ m, n = m + 60 := ⟨n - 60, by omega⟩
 exact works_run m
theorem works_call (hN : 200 < N) : (handler Try.prog ppol N).call (.func 9) [] S = some (.ret (.bool true), S) := by
 obtain ⟨n, rfl⟩ : ∃ n, N = n + 1 := ⟨N - 1, by omega⟩
 exact call_closed (free_yes rfl) (works_runN (by omega))
theorem few_small {f : FileV} {n : Nat} (h : fewOf f = true) (hn : 6400 < n) : Small f n := by
 unfold fewOf at h
 simp only [Bool.and_eq_true, decide_eq_true_eq, List.all_eq_true] at h
 obtain ⟨⟨⟨h1, h2⟩, h3⟩, -⟩ := h
 exact ⟨by omega, by omega, hn⟩
theorem build25 : buildA Try.prog 25 [] = some (.agg [.nilsl, .nilsl]) := by kernel_rfl
end Go.Ab.Seat
