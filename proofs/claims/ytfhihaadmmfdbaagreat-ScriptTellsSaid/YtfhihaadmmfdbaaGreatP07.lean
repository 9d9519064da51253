/- Raw and Check tell of one event as the document says, whatever the event (pomanderlaw19.ScriptTells). No conditions. -/
import Derived.Test.YtfhihaadmmfdbaaGreatP06
import Derived.KernelRfl
namespace Go.Ab.Seat
open Go.Proofs
set_option maxRecDepth 100000
theorem scf1 : (handler Tryz.prog ppol 198).call (.func 37) sca1 sc1 = scr1 := by kernel_rfl
theorem scf2 : (handler Tryz.prog ppol 198).call (.func 38) sca2 sc3 = scr2 := by kernel_rfl
theorem scf3 : (handler Tryz.prog ppol 198).call (.func 38) sca3 sc5 = scr3 := by kernel_rfl
theorem scf4 : (handler Tryz.prog ppol 198).call (.func 39) sca4 sc7 = scr4 := by kernel_rfl
theorem scf5 : (handler Tryz.prog ppol 198).call (.func 40) sca5 sc8 = scr5 := by kernel_rfl
theorem scf6 : (handler Tryz.prog ppol 198).call (.func 41) sca6 sc8 = scr6 := by kernel_rfl
theorem scf7 : (handler Tryz.prog ppol 198).call (.func 42) sca7 sc8 = scr7 := by kernel_rfl
theorem scf8 : (handler Tryz.prog ppol 198).call (.func 43) sca8 sc9 = scr8 := by kernel_rfl
theorem scf9 : (handler Tryz.prog ppol 198).call (.func 44) sca9 sc10 = scr9 := by kernel_rfl
theorem scf10 : (handler Tryz.prog ppol 198).call (.func 45) sca10 sc11 = scr10 := by kernel_rfl
theorem scf11 : (handler Tryz.prog ppol 198).call (.func 46) sca11 sc11 = scr11 := by kernel_rfl
theorem scf12 : (handler Tryz.prog ppol 198).call (.func 47) sca12 sc12 = scr12 := by kernel_rfl
theorem scAll : ∀ m ∈ [scm1, scm2, scm3, scm4, scm5, scm6, scm7, scm8, scm9, scm10, scm11, scm12], (handler Tryz.prog ppol 198).call (.func m.f) m.args m.S = m.r := by
 intro m hm
 simp only [List.mem_cons, List.not_mem_nil, or_false] at hm
 rcases hm with rfl | rfl | rfl | rfl | rfl | rfl | rfl | rfl | rfl | rfl | rfl | rfl
 ·exact memo_ok scf1 _ (rfl)
 ·exact memo_ok scf2 _ (rfl)
 ·exact memo_ok scf3 _ (rfl)
 ·exact memo_ok scf4 _ (rfl)
 ·exact memo_ok scf5 _ (rfl)
 ·exact memo_ok scf6 _ (rfl)
 ·exact memo_ok scf7 _ (rfl)
 ·exact memo_ok scf8 _ (rfl)
 ·exact memo_ok scf9 _ (rfl)
 ·exact memo_ok scf10 _ (rfl)
 ·exact memo_ok scf11 _ (rfl)
 ·exact memo_ok scf12 _ (rfl)
theorem scf13 : (handler Tryz.prog ppol 199).call (.func 22) sca13 sc1 = scr13 := by
 rw [call_runFn (n := 198) rfl, hkM_eq scAll]
 kernel_rfl
end Go.Ab.Seat
namespace Go.Ab.Seat
open Go.Proofs
set_option maxRecDepth 100000
theorem scf14 : (handler Tryz.prog ppol 199).call (.func 17) sca14 { heap := [], next := 0 } = scr14 := by kernel_rfl
theorem scf15 : (handler Tryz.prog ppol 199).call (.func 14) sca15 sc13 = scr15 := by kernel_rfl
theorem scTop : ∀ m ∈ [scm13, scm14, scm15], (handler Tryz.prog ppol 199).call (.func m.f) m.args m.S = m.r := by
 intro m hm
 simp only [List.mem_cons, List.not_mem_nil, or_false] at hm
 rcases hm with rfl | rfl | rfl
 ·exact memo_ok scf13 _ (rfl)
 ·exact memo_ok scf14 _ (rfl)
 ·exact memo_ok scf15 _ (rfl)
end Go.Ab.Seat
namespace Go.Ab.Seat
open Go.Proofs
set_option maxRecDepth 100000
theorem works_run : runTrue (runFn Tryz.prog (handler Tryz.prog ppol 199) 199 ppol 10 .none [] { heap := [], next := 0 }) = true := by
 rw [hkM_eq scTop]
 kernel_rfl
theorem works_call (S : Sto) : (handler Tryz.prog ppol 200).call (.func 10) [] S = some (.ret (.bool true), S) := call_free0 (n := 199) rfl works_run S
end Go.Ab.Seat
namespace Go.Ab.Seat
open Go.Proofs
set_option maxRecDepth 100000
set_option maxHeartbeats 2000000
theorem raw_call {m : Nat} (hm : 4 ≤ m) (own : Bool) (e : Ev) (hb : (ol e.b).length < 2 ^ 20) (S : Sto) : ∃ n, (handler Tryz.prog ppol (m + 4)).call (.func 14) [sv own 4 evC (some [e])] S = some (.ret (.tup [if chk e = 0 then outV false (rawP e) else .nilsl, .int .i64 (if chk e = 0 then 0 else 290)]), { heap := (kSto S).heap, next := n }) := by
 obtain ⟨n, h⟩ := raw_run (m := m) (N := m + 3) (S := S) own (some [e]) (by show 1 < m + 3; omega) (by omega) (by intro e' h; simp [ol] at h; rw [h]; exact hb) (by show 1 < 2 ^ 16; decide)
 refine ⟨n, ?_⟩
 rw [call_func (by rfl), h]
 simp [ol]
theorem refRaw_call {m : Nat} (hm : 4 ≤ m) (own : Bool) {e : Ev} (hb : (ol e.b).length < 2 ^ 20) (hs : 0 ≤ e.s) (hs' : e.s < 4294967296) (S : Sto) : (handler Tryz.prog ppol (m + 3)).call (.func 15) [sv own 4 evC (some [e])] S = some (.ret (.tup [if chk e = 0 then outV false (rawP e) else .nilsl, .int .i64 (if chk e = 0 then 0 else 290)]), S) := by
 rw [call_func (by rfl), refRaw_run own (by omega) hb hs hs']; rfl
theorem num_run {H : Handler} {N : Nat} {S : Sto} (x : Int) : runFn Tryz.prog H N ppol 11 .none [.int .i64 x] S = some (.ret (.int .i64 x), .none, S) := by
 rw [runFn_eq Tryz.func11 (by rfl)]
 simp [Tryz.f11]
theorem num_call {m : Nat} (x : Int) (S : Sto) : (handler Tryz.prog ppol (m + 1)).call (.func 11) [.int .i64 x] S = some (.ret (.int .i64 x), S) := by
 rw [call_func (by rfl), num_run]; rfl
theorem bs22 (e : Ev) : buildSliceA Tryz.prog 22 1 [(0, .agg (evC e))] = some (sv true 4 evC (some [e])) := by
 obtain ⟨k, n, b, s⟩ := e
 cases b <;> kernel_rfl
theorem cv26_9 (bs : List UInt8) : convA Tryz.prog 26 9 (outV false bs) = some (.str bs) := by
 cases bs with
 | nil => kernel_rfl
 | cons c bs =>
  show convA Tryz.prog 26 9 (.sl false 1 ((c :: bs).map byteRow)) = _
  simp only [convA, Tryz.underlying26, bytes_of, show Tryz.prog.underlying 9 = some .string from Tryz.underlying9, show Tryz.prog.underlying 5 = some (.int .u8) from Tryz.underlying5, Option.map_some]
theorem cv26_nil : convA Tryz.prog 26 9 .nilsl = some (.str []) := by kernel_rfl
theorem tells_few {H : Handler} {N : Nat} (e : Ev) (f1 : ∀ S, H.call (.func 9) [sv true 4 evC (some [e])] S = some (.ret (.bool false), S)) (w : ∀ S, H.call (.func 10) [] S = some (.ret (.bool true), S)) : ∃ p S', runFn Tryz.prog H N ppol 6 .none [.agg (evC e)] { heap := [], next := 0 } = some (.ret (.bool true), p, S') := by
 have b1 := bs22 e
 simp only [evC] at b1
 rw [runFn_eq Tryz.func6 (by rfl)]
 simp [Tryz.f6, evC, b1, f1, w]
theorem tells_gen {H : Handler} {N : Nat} {S1 : Sto} {v : AV} {bs : List UInt8} {x : Int} (e : Ev) (f1 : ∀ S, H.call (.func 9) [sv true 4 evC (some [e])] S = some (.ret (.bool true), S)) (w : ∀ S, H.call (.func 10) [] S = some (.ret (.bool true), S))
  (hv : v = outV false bs) (q1 : H.call (.func 14) [sv true 4 evC (some [e])] { heap := [], next := 0 } = some (.ret (.tup [v, .int .i64 x]), S1)) (r2 : H.call (.func 15) [sv true 4 evC (some [e])] S1 = some (.ret (.tup [v, .int .i64 x]), S1))
  (c1 : ∀ S, H.call (.func 12) [.agg (evC e)] S = some (.ret (.int .i64 x), { heap := S.heap, next := S.next + 8 })) (nc : ∀ x S, H.call (.func 11) [.int .i64 x] S = some (.ret (.int .i64 x), S)) : ∃ p S', runFn Tryz.prog H N ppol 6 .none [.agg (evC e)] { heap := [], next := 0 } = some (.ret (.bool true), p, S') := by
 subst hv
 have b1 := bs22 e
 simp only [evC] at b1 c1
 rw [runFn_eq Tryz.func6 (by rfl)]
 simp [Tryz.f6, evC, b1, f1, w, q1, r2, c1, nc, cv26_9]
theorem few200 {e : Ev} {b : Bool} (h : fewB e = b) (S : Sto) : (handler Tryz.prog ppol 200).call (.func 9) [sv true 4 evC (some [e])] S = some (.ret (.bool b), S) := h ▸ few_call (m := 199) (by decide) true e S
theorem raw200 (e : Ev) (hb : (ol e.b).length < 2 ^ 20) (S : Sto) : ∃ n, (handler Tryz.prog ppol 200).call (.func 14) [sv true 4 evC (some [e])] S = some (.ret (.tup [if chk e = 0 then outV false (rawP e) else .nilsl, .int .i64 (if chk e = 0 then 0 else 290)]), { heap := (kSto S).heap, next := n }) := raw_call (m := 196) (by decide) true e hb S
theorem refRaw200 {e : Ev} (hb : (ol e.b).length < 2 ^ 20) (hs : 0 ≤ e.s) (hs' : e.s < 4294967296) (S : Sto) : (handler Tryz.prog ppol 200).call (.func 15) [sv true 4 evC (some [e])] S = some (.ret (.tup [if chk e = 0 then outV false (rawP e) else .nilsl, .int .i64 (if chk e = 0 then 0 else 290)]), S) := refRaw_call (m := 197) (by decide) true hb hs hs' S
theorem check200 (e : Ev) (S : Sto) : (handler Tryz.prog ppol 200).call (.func 12) [.agg (evC e)] S = some (.ret (.int .i64 (chk e)), { heap := S.heap, next := S.next + 8 }) := check_call (m := 197) e S
theorem num200 (x : Int) (S : Sto) : (handler Tryz.prog ppol 200).call (.func 11) [.int .i64 x] S = some (.ret (.int .i64 x), S) := num_call (m := 199) x S
theorem tells_run (e : Ev) (hs : 0 ≤ e.s) (hs' : e.s < 4294967296) : ∃ p S', runFn Tryz.prog (handler Tryz.prog ppol 200) 200 ppol 6 .none [.agg (evC e)] { heap := [], next := 0 } = some (.ret (.bool true), p, S') := by
 cases hf : fewB e with
 | false => exact tells_few e (few200 hf) works_call
 | true =>
  have hb := few_le hf
  obtain ⟨n1, q1⟩ := raw200 e (by omega) { heap := [], next := 0 }
  have r2 := refRaw200 (e := e) (by omega) hs hs' { heap := (kSto { heap := [], next := 0 }).heap, next := n1 }
  have hx : (if chk e = 0 then (0 : Int) else 290) = chk e := by rcases chk_or e with hc | hc <;> simp [hc]
  have hv : (if chk e = 0 then outV false (rawP e) else AV.nilsl) = outV false (if chk e = 0 then rawP e else []) := by rcases chk_or e with hc | hc <;> simp [hc, outV]
  rw [hx] at q1 r2
  exact tells_gen e (few200 hf) works_call hv q1 r2 (check200 e) num200
end Go.Ab.Seat
