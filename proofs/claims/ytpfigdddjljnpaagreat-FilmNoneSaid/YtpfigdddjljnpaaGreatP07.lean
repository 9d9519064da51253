/- What films that are not there answer is as the document says, whatever the number asked for (pomanderlaw22.FilmNone). No conditions. -/
import Derived.Test.YtpfigdddjljnpaaGreatP06
import Derived.KernelRfl
namespace Go.Ab.Seat
open Go.Proofs
set_option maxRecDepth 100000
theorem fnf1 : (handler Tryz.prog ppol 198).call (.func 41) fna1 { heap := [], next := 0 } = fnr1 := by kernel_rfl
theorem fnf2 : (handler Tryz.prog ppol 198).call (.func 47) fna2 fn2 = fnr2 := by kernel_rfl
theorem fnf3 : (handler Tryz.prog ppol 198).call (.func 42) fna3 fn3 = fnr3 := by kernel_rfl
theorem fnf4 : (handler Tryz.prog ppol 198).call (.func 47) fna4 fn5 = fnr4 := by kernel_rfl
theorem fnf5 : (handler Tryz.prog ppol 198).call (.func 45) fna5 fn5 = fnr5 := by kernel_rfl
theorem fnf6 : (handler Tryz.prog ppol 198).call (.func 47) fna6 fn7 = fnr6 := by kernel_rfl
theorem fnf7 : (handler Tryz.prog ppol 198).call (.func 45) fna7 fn8 = fnr7 := by kernel_rfl
theorem fnf8 : (handler Tryz.prog ppol 198).call (.func 47) fna8 fn10 = fnr8 := by kernel_rfl
theorem fnf9 : (handler Tryz.prog ppol 198).call (.func 45) fna9 fn10 = fnr9 := by kernel_rfl
theorem fnAll : ∀ m ∈ [fnm1, fnm2, fnm3, fnm4, fnm5, fnm6, fnm7, fnm8, fnm9], (handler Tryz.prog ppol 198).call (.func m.f) m.args m.S = m.r := by
 intro m hm
 simp only [List.mem_cons, List.not_mem_nil, or_false] at hm
 rcases hm with rfl | rfl | rfl | rfl | rfl | rfl | rfl | rfl | rfl
 ·exact memo_ok fnf1 _ (rfl)
 ·exact memo_ok fnf2 _ (rfl)
 ·exact memo_ok fnf3 _ (rfl)
 ·exact memo_ok fnf4 _ (rfl)
 ·exact memo_ok fnf5 _ (rfl)
 ·exact memo_ok fnf6 _ (rfl)
 ·exact memo_ok fnf7 _ (rfl)
 ·exact memo_ok fnf8 _ (rfl)
 ·exact memo_ok fnf9 _ (rfl)
theorem fnf10 : (handler Tryz.prog ppol 199).call (.func 26) fna10 { heap := [], next := 0 } = fnr10 := by
 rw [call_runFn (n := 198) rfl, hkM_eq fnAll]
 kernel_rfl
end Go.Ab.Seat
namespace Go.Ab.Seat
open Go.Proofs
set_option maxRecDepth 100000
theorem fnf11 : (handler Tryz.prog ppol 199).call (.func 4) fna11 fn12 = fnr11 := by kernel_rfl
theorem fnf12 : (handler Tryz.prog ppol 199).call (.func 4) fna12 fn12 = fnr12 := by kernel_rfl
theorem fnf13 : (handler Tryz.prog ppol 199).call (.func 7) fna13 fn13 = fnr13 := by kernel_rfl
theorem fnf14 : (handler Tryz.prog ppol 199).call (.func 6) fna14 fn13 = fnr14 := by kernel_rfl
theorem fnf15 : (handler Tryz.prog ppol 199).call (.func 5) fna15 fn13 = fnr15 := by kernel_rfl
theorem fnf16 : (handler Tryz.prog ppol 199).call (.func 10) fna16 fn13 = fnr16 := by kernel_rfl
theorem fnf17 : (handler Tryz.prog ppol 199).call (.func 11) fna17 fn13 = fnr17 := by kernel_rfl
theorem fnTop : ∀ m ∈ [fnm10, fnm11, fnm12, fnm13, fnm14, fnm15, fnm16, fnm17], (handler Tryz.prog ppol 199).call (.func m.f) m.args m.S = m.r := by
 intro m hm
 simp only [List.mem_cons, List.not_mem_nil, or_false] at hm
 rcases hm with rfl | rfl | rfl | rfl | rfl | rfl | rfl | rfl
 ·exact memo_ok fnf10 _ (rfl)
 ·exact memo_ok fnf11 _ (rfl)
 ·exact memo_ok fnf12 _ (rfl)
 ·exact memo_ok fnf13 _ (rfl)
 ·exact memo_ok fnf14 _ (rfl)
 ·exact memo_ok fnf15 _ (rfl)
 ·exact memo_ok fnf16 _ (rfl)
 ·exact memo_ok fnf17 _ (rfl)
end Go.Ab.Seat
namespace Go.Ab.Seat
open Go.Proofs
set_option maxRecDepth 100000
theorem works_run : runTrue (runFn Tryz.prog (handler Tryz.prog ppol 199) 199 ppol 14 .none [] { heap := [], next := 0 }) = true := by
 rw [hkM_eq fnTop]
 kernel_rfl
theorem works_call (S : Sto) : (handler Tryz.prog ppol 200).call (.func 14) [] S = some (.ret (.bool true), S) := call_free0 (n := 199) rfl works_run S
theorem none_hk (n : Int) : runTrue (runFn Tryz.prog (hk 14 (handler Tryz.prog ppol 200)) 200 ppol 3 .none [.int .i64 n] { heap := [], next := 0 }) = true := by kernel_rfl
theorem none_run (n : Int) : ∃ p S, runFn Tryz.prog (handler Tryz.prog ppol 200) 200 ppol 3 .none [.int .i64 n] { heap := [], next := 0 } = some (.ret (.bool true), p, S) := by
 rw [hk_eq works_call]
 exact runTrue_some (none_hk n)
end Go.Ab.Seat
