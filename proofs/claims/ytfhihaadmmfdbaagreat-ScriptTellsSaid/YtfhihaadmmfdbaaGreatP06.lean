/- Raw and Check tell of one event as the document says, whatever the event (pomanderlaw19.ScriptTells). No conditions. -/
import Derived.Test.YtfhihaadmmfdbaaGreatP05
import Derived.IntWalk
namespace Go.Ab
variable {P : Program} {H : Handler} {pol : Pol} {f : FuncId} {pl : List Tmp}
section ops
variable {d : Option Tmp} {ty : TypeId} {po : String} {af : Array Edge} {g : Option (Nat × Bool)} {st : St}
theorem opA_makeMap0 {t : TypeId} : opA P pol f pl ⟨d, .makeMap t none, ty, po, af, g⟩ st = some (.val (.map st.S.next) { st with S := st.S.new (.map []) }) := (rfl)
theorem opA_lookup {t : TypeId} {m k : Operand} {ok : Bool} : opA P pol f pl ⟨d, .lookup t m k ok, ty, po, af, g⟩ st = oB (lookA P st.S t (opd st.env m) (opd st.env k) ok) fun v => some (.val v st) := by
 unfold opA
 simp only [consumed, stripAt, oB]
 cases lookA P st.S t (opd st.env m) (opd st.env k) ok <;> rfl
theorem opA_insert {t : TypeId} {m k v : Operand} : opA P pol f pl ⟨d, .insert t m k v, ty, po, af, g⟩ st = mapPutS P t (opd st.env m) (opd st.env k) (opd st.env v) st := (rfl)
theorem opA_mapUpdate {t : TypeId} {m k v : Operand} : opA P pol f pl ⟨d, .mapUpdate t m k v, ty, po, af, g⟩ st = mapPutS P t (opd st.env m) (opd st.env k) (opd st.env v) st := (rfl)
theorem leftA_lookup {t : TypeId} {m k : Operand} {ok : Bool} (v : AV) : leftA ⟨d, .lookup t m k ok, ty, po, af, g⟩ v = v.noLp := (rfl)
theorem leftA_insert {t : TypeId} {m k u : Operand} (v : AV) : leftA ⟨d, .insert t m k u, ty, po, af, g⟩ v = v.noLp := (rfl)
theorem leftA_mapUpdate {t : TypeId} {m k u : Operand} (v : AV) : leftA ⟨d, .mapUpdate t m k u, ty, po, af, g⟩ v = v.noLp := (rfl)
theorem leftA_makeMap {t : TypeId} {r : Option Operand} (v : AV) : leftA ⟨d, .makeMap t r, ty, po, af, g⟩ v = v.noLp := (rfl)
theorem isPlaceOp_lookup {t : TypeId} {m k : Operand} {ok : Bool} : isPlaceOp ⟨d, .lookup t m k ok, ty, po, af, g⟩ = none := (rfl)
theorem isPlaceOp_insert {t : TypeId} {m k u : Operand} : isPlaceOp ⟨d, .insert t m k u, ty, po, af, g⟩ = none := (rfl)
theorem isPlaceOp_mapUpdate {t : TypeId} {m k u : Operand} : isPlaceOp ⟨d, .mapUpdate t m k u, ty, po, af, g⟩ = none := (rfl)
theorem isPlaceOp_makeMap {t : TypeId} {r : Option Operand} : isPlaceOp ⟨d, .makeMap t r, ty, po, af, g⟩ = none := (rfl)
end ops
def ownB (a b : Bool) (o : Oper) (env : List AV) : Bool := (!a || lpOp o env) && (!b || !lpOp o env)
@[congr] theorem ownB_congr {a a' b b' : Bool} {o : Oper} {env : List AV} (h : a = a') (h' : b = b') : ownB a b o env = ownB a' b' o env := by rw [h, h']
theorem ownOK_B {ow hp : List Nat} {i : Nat} {o : Oper} {env : List AV} : ownOK ow hp i o env = ownB (ow.contains i) (hp.contains i) o env := (rfl)
theorem ownB_ff {o : Oper} {env : List AV} : ownB false false o env = true := (rfl)
section ownB
variable {d : Option Tmp} {ty : TypeId} {po : String} {af : Array Edge} {g : Option (Nat × Bool)} {env : List AV} {t : TypeId} {a x : Operand}
theorem ownB_tl : ownB true false ⟨d, .load t a, ty, po, af, g⟩ env = lpK true (adr env a) := by simp only [ownB, lpOp, plcOf]; cases adr env a <;> rfl
theorem ownB_hl : ownB false true ⟨d, .load t a, ty, po, af, g⟩ env = lpK false (adr env a) := by simp only [ownB, lpOp, plcOf]; cases adr env a <;> rfl
theorem ownB_ts : ownB true false ⟨d, .store t a x, ty, po, af, g⟩ env = lpK true (adr env a) := by simp only [ownB, lpOp, plcOf]; cases adr env a <;> rfl
theorem ownB_hs : ownB false true ⟨d, .store t a x, ty, po, af, g⟩ env = lpK false (adr env a) := by simp only [ownB, lpOp, plcOf]; cases adr env a <;> rfl
end ownB
theorem lpK_lptr (b : Bool) (s o : Nat) : lpK b (.lptr s o) = b := (rfl)
theorem lpK_ptr (b : Bool) (s o : Nat) : lpK b (.ptr s o) = !b := (rfl)
theorem lpK_fptr (b : Bool) (cs : List AV) : lpK b (.fptr cs) = !b := (rfl)
theorem lpK_aptr (b : Bool) (x y z : Nat) : lpK b (.aptr x y z) = !b := (rfl)
attribute [simp] ownOK_B ownB_ff ownB_tl ownB_hl ownB_ts ownB_hs lpK_lptr lpK_ptr lpK_fptr lpK_aptr
theorem mapPut_new {t kt et : TypeId} {id : Nat} {es : List (AV × AV)} {k v : AV} {st : St} (hu : P.underlying t = some (.map kt et)) (hk : keyOK P kt k = true) (hg : st.S.get id = some (.map es)) (hf : findA P kt k es 0 = some none) :
  mapPutS P t (.map id) k v st = some (.val .undef { st with S := st.S.put id (.map (es ++ [(k, v)])) }) := by
 simp [mapPutS, hu, hk, hg, hf, putA]
theorem look_hit {S : Sto} {t kt et : TypeId} {id : Nat} {es : List (AV × AV)} {k v : AV} {ok : Bool} {i : Nat} {k' : AV} (hu : P.underlying t = some (.map kt et)) (hk : keyOK P kt k = true) (hg : S.get id = some (.map es)) (hf : findA P kt k es 0 = some (some (i, k', v))) :
  lookA P S t (.map id) k ok = some (if ok then .tup [v, .bool true] else v) := by
 simp [lookA, hu, hk, mapIn, hg, hf]
theorem look_miss {S : Sto} {t kt et : TypeId} {id : Nat} {es : List (AV × AV)} {k z : AV} {ok : Bool} (hu : P.underlying t = some (.map kt et)) (hk : keyOK P kt k = true) (hg : S.get id = some (.map es)) (hf : findA P kt k es 0 = some none) (hz : zeroA P et = some z) :
  lookA P S t (.map id) k ok = some (if ok then .tup [z, .bool false] else z) := by
 simp [lookA, hu, hk, mapIn, hg, hf, hz]
theorem findI_cons {kt : TypeId} {ik : IntKind} {a b : Int} {v : AV} {es : List (AV × AV)} {i : Nat} (hu : P.underlying kt = some (.int ik)) : findA P kt (.int ik a) ((.int ik b, v) :: es) i = if a = b then some (some (i, .int ik b, v)) else findA P kt (.int ik a) es (i + 1) := by
 have : eqA P Op.maxDepth kt (.int ik a) (.int ik b) = some (a == b) := by
  show eqA P (9999 + 1) kt _ _ = _
  simp [eqA, hu]
 simp only [findA, this]
 by_cases h : a = b
 ·simp [h]
 ·rw [beq_false_of_ne h, if_neg h]
theorem find_nil {kt : TypeId} {k : AV} {i : Nat} : findA P kt k [] i = some none := (rfl)
attribute [simp] opA_makeMap0 opA_lookup opA_insert opA_mapUpdate leftA_lookup leftA_insert leftA_mapUpdate leftA_makeMap isPlaceOp_lookup isPlaceOp_insert isPlaceOp_mapUpdate isPlaceOp_makeMap find_nil
end Go.Ab
namespace Go.Ab.Seat
open Go.Proofs
set_option maxRecDepth 100000
set_option maxHeartbeats 1000000
variable {H : Handler} {N : Nat} {S : Sto}
theorem plain_run (f : Nat) : runFn Tryz.prog H N ppol 50 .none [.fn (.func f) [] []] S = some (.ret (.fn (.func 85) [] [.ptr S.next 0]), .none, S.new (.cells [.fn (.func f) [] []])) := by
 rw [runFn_eq Tryz.func50 (by rfl)]
 simp [Tryz.f50]
def kEs (n : Nat) : List (AV × AV) := [(.int .i64 1, .agg [.int .i64 0, .int .i64 255, .int .i64 1, .int .i64 (-1), .bool false, .fn (.func 49) [] []]), (.int .i64 2, .agg [.int .i64 0, .int .i64 65535, .int .i64 2, .int .i64 (255), .bool false, .fn (.func 85) [] [.ptr (n + 1) 0]]), (.int .i64 3, .agg [.int .i64 0, .int .i64 255, .int .i64 1, .int .i64 (64), .bool false, .fn (.func 85) [] [.ptr (n + 2) 0]]), (.int .i64 4, .agg [.int .i64 0, .int .i64 0, .int .i64 0, .int .i64 (255), .bool false, .fn (.func 85) [] [.ptr (n + 3) 0]]), (.int .i64 5, .agg [.int .i64 0, .int .i64 0, .int .i64 0, .int .i64 (64), .bool false, .fn (.func 85) [] [.ptr (n + 4) 0]]), (.int .i64 6, .agg [.int .i64 1, .int .i64 4, .int .i64 1, .int .i64 (-1), .bool true, .fn (.func 85) [] [.ptr (n + 5) 0]]), (.int .i64 7, .agg [.int .i64 1, .int .i64 4, .int .i64 1, .int .i64 (-1), .bool true, .fn (.func 85) [] [.ptr (n + 6) 0]]), (.int .i64 8, .agg [.int .i64 0, .int .i64 0, .int .i64 0, .int .i64 (-1), .bool true, .fn (.func 85) [] [.ptr (n + 7) 0]])]
def kSto (S : Sto) : Sto := { heap := [(S.next + 7, .cells [.fn (.func 57) [] []]), (S.next + 6, .cells [.fn (.func 56) [] []]), (S.next + 5, .cells [.fn (.func 55) [] []]), (S.next + 4, .cells [.fn (.func 54) [] []]), (S.next + 3, .cells [.fn (.func 53) [] []]), (S.next + 2, .cells [.fn (.func 52) [] []]), (S.next + 1, .cells [.fn (.func 51) [] []]), (S.next, .map (kEs S.next))] ++ S.heap, next := S.next + 8 }
theorem plain_call {n : Nat} (f : Nat) (S : Sto) : (handler Tryz.prog ppol (n + 1)).call (.func 50) [.fn (.func f) [] []] S = some (.ret (.fn (.func 85) [] [.ptr S.next 0]), S.new (.cells [.fn (.func f) [] []])) := by
 rw [call_func (by rfl), plain_run]; rfl
theorem key25 (k : Int) : keyOK Tryz.prog 25 (.int .i64 k) = true := by kernel_rfl
theorem find25 (a b : Int) (v : AV) (es : List (AV × AV)) (i : Nat) : findA Tryz.prog 25 (.int .i64 a) ((.int .i64 b, v) :: es) i = if a = b then some (some (i, .int .i64 b, v)) else findA Tryz.prog 25 (.int .i64 a) es (i + 1) := findI_cons Tryz.underlying25
theorem build66 (a b c d : Int) (e : Bool) (g : Fn) (x y : List AV) : buildA Tryz.prog 66 [(0, .int .i64 a), (1, .int .i64 b), (2, .int .i64 c), (3, .int .i64 d), (4, .bool e), (5, .fn g x y)] = some (.agg [.int .i64 a, .int .i64 b, .int .i64 c, .int .i64 d, .bool e, .fn g x y]) := by kernel_rfl
theorem kinds_run {m : Nat} : runFn Tryz.prog (handler Tryz.prog ppol (m + 1)) N ppol 23 .none [] S = some (.ret (.map S.next), .none, kSto S) := by
 rw [runFn_eq Tryz.func23 (by rfl)]
 simp [Tryz.f23, plain_call, Nat.add_assoc, build66, mapPutS, Tryz.underlying68, key25, Sto.get, Sto.look, Sto.new, Sto.put, Sto.putIn, find25, putA]
 simp [kSto, kEs]
end Go.Ab.Seat
namespace Go.Ab.Seat
open Go.Proofs
set_option maxRecDepth 100000
set_option maxHeartbeats 1000000
variable {H : Handler} {N : Nat} {S : Sto}
structure Ev where
 k : Int
 n : Int
 b : Option (List UInt8)
 s : Int
def evC (e : Ev) : List AV := [.int .i64 e.k, .int .i64 e.n, sv false 1 byteRow e.b, .int .u32 e.s]
structure Kd where
 l : Int
 g : Int
 w : Int
 m : Int
 st : Bool
def kd (k : Int) : Option Kd :=
 if k = 1 then some ⟨0, 255, 1, -1, false⟩ else if k = 2 then some ⟨0, 65535, 2, 255, false⟩ else if k = 3 then some ⟨0, 255, 1, 64, false⟩ else if k = 4 then some ⟨0, 0, 0, 255, false⟩
 else if k = 5 then some ⟨0, 0, 0, 64, false⟩ else if k = 6 then some ⟨1, 4, 1, -1, true⟩ else if k = 7 then some ⟨1, 4, 1, -1, true⟩ else if k = 8 then some ⟨0, 0, 0, -1, true⟩ else none
theorem look_kinds (k : Int) (ok : Bool) : (∃ K g x, kd k = some K ∧ lookA Tryz.prog (kSto S) 68 (.map S.next) (.int .i64 k) ok = some (if ok then .tup [.agg [.int .i64 K.l, .int .i64 K.g, .int .i64 K.w, .int .i64 K.m, .bool K.st, .fn (.func g) [] x], .bool true] else .agg [.int .i64 K.l, .int .i64 K.g, .int .i64 K.w, .int .i64 K.m, .bool K.st, .fn (.func g) [] x])) ∨
  kd k = none ∧ lookA Tryz.prog (kSto S) 68 (.map S.next) (.int .i64 k) ok = some (if ok then .tup [.agg [.int .i64 0, .int .i64 0, .int .i64 0, .int .i64 0, .bool false, .nilfn], .bool false] else .agg [.int .i64 0, .int .i64 0, .int .i64 0, .int .i64 0, .bool false, .nilfn]) := by
 have hz : zeroA Tryz.prog 66 = some (.agg [.int .i64 0, .int .i64 0, .int .i64 0, .int .i64 0, .bool false, .nilfn]) := by kernel_rfl
 have hg : (kSto S).get S.next = some (.map (kEs S.next)) := by simp [kSto, Sto.get, Sto.look]
 unfold kd
 simp only [lookA, Tryz.underlying68, key25, if_true, mapIn, hg, kEs, find25, hz]
 by_cases h1 : k = 1
 ·left; exact ⟨_, 49, [], by rw [if_pos h1], by simp [h1]⟩
 rw [if_neg h1, if_neg h1]
 by_cases h2 : k = 2
 ·left; exact ⟨_, 85, [.ptr (S.next + 1) 0], by rw [if_pos h2], by simp [h2]⟩
 rw [if_neg h2, if_neg h2]
 by_cases h3 : k = 3
 ·left; exact ⟨_, 85, [.ptr (S.next + 2) 0], by rw [if_pos h3], by simp [h3]⟩
 rw [if_neg h3, if_neg h3]
 by_cases h4 : k = 4
 ·left; exact ⟨_, 85, [.ptr (S.next + 3) 0], by rw [if_pos h4], by simp [h4]⟩
 rw [if_neg h4, if_neg h4]
 by_cases h5 : k = 5
 ·left; exact ⟨_, 85, [.ptr (S.next + 4) 0], by rw [if_pos h5], by simp [h5]⟩
 rw [if_neg h5, if_neg h5]
 by_cases h6 : k = 6
 ·left; exact ⟨_, 85, [.ptr (S.next + 5) 0], by rw [if_pos h6], by simp [h6]⟩
 rw [if_neg h6, if_neg h6]
 by_cases h7 : k = 7
 ·left; exact ⟨_, 85, [.ptr (S.next + 6) 0], by rw [if_pos h7], by simp [h7]⟩
 rw [if_neg h7, if_neg h7]
 by_cases h8 : k = 8
 ·left; exact ⟨_, 85, [.ptr (S.next + 7) 0], by rw [if_pos h8], by simp [h8]⟩
 rw [if_neg h8, if_neg h8]
 right
 exact ⟨rfl, by rw [find_nil]; rfl⟩
theorem kinds_call {m : Nat} (S : Sto) : (handler Tryz.prog ppol (m + 2)).call (.func 23) [] S = some (.ret (.map S.next), kSto S) := by
 rw [call_func (by rfl), kinds_run]; rfl
def chk (e : Ev) : Int := match kd e.k with
 | none => 290
 | some K => if e.n < K.l ∨ K.g < e.n ∨ (if 0 < K.m then K.m else 0) < ((ol e.b).length : Int) ∨ K.st = false ∧ e.s ≠ 0 ∨ e.s.fdiv 65536 ≠ 0 then 290 else 0
theorem check_run {m : Nat} (e : Ev) : runFn Tryz.prog (handler Tryz.prog ppol (m + 2)) N ppol 12 .none [.agg (evC e)] S = some (.ret (.int .i64 (chk e)), .none, kSto S) := by
 rw [runFn_eq Tryz.func12 (by rfl)]
 simp [Tryz.f12, evC]
 rw [evDraw_go]
 ·simp [kinds_call]
  rcases look_kinds (S := S) e.k true with ⟨K, g, x, hk, hl⟩ | ⟨hk, hl⟩
  ·rcases Classical.em (e.n < K.l) with h1 | h1
   ·simp [hl, writeCells, h1, chk, hk]
   rcases Classical.em (K.g < e.n) with h2 | h2
   ·simp [hl, writeCells, h1, h2, chk, hk]
   rcases Classical.em ((if 0 < K.m then K.m else 0) < ((ol e.b).length : Int)) with h3 | h3
   ·simp [hl, writeCells, h1, h2, h3, chk, hk, foldA, foldB, max2]
   have he : (2 : Int) ^ min 16 IntKind.u32.bits = 65536 := by decide
   rcases Classical.em (e.s.fdiv 65536 = 0) with h5 | h5
   ·skip
    cases hst : K.st with
    | true => simp [hl, writeCells, he, h1, h2, h3, h5, hst, chk, hk, foldA, foldB, max2]
    | false =>
     rcases Classical.em (e.s = 0) with h4 | h4
     ·simp [hl, writeCells, he, h1, h2, h3, h4, hst, chk, hk, foldA, foldB, max2]
     ·have h4' : (e.s != 0) = true := by simpa using h4
      simp [hl, writeCells, h1, h2, h3, h5, h4, h4', hst, chk, hk, foldA, foldB, max2]
   ·have h5' : (e.s.fdiv 65536 != 0) = true := by simpa using h5
    cases hst : K.st with
    | true => simp [hl, writeCells, he, h1, h2, h3, h5, h5', hst, chk, hk, foldA, foldB, max2]
    | false =>
     rcases Classical.em (e.s = 0) with h4 | h4
     ·simp [hl, writeCells, he, h1, h2, h3, h4, hst, chk, hk, foldA, foldB, max2]
     ·have h4' : (e.s != 0) = true := by simpa using h4
      simp [hl, writeCells, h1, h2, h3, h5, h4, h4', hst, chk, hk, foldA, foldB, max2]
  ·simp [hl, writeCells]
   simp [chk, hk]
 ·kernel_rfl
 ·rfl
end Go.Ab.Seat
namespace Go.Ab.Seat
open Go.Proofs
set_option maxRecDepth 100000
set_option maxHeartbeats 2000000
variable {H : Handler} {N : Nat} {S : Sto}
def refOK (e : Ev) : Prop :=
 if e.k = 1 then (0 ≤ e.n ∧ e.n ≤ 255) ∧ ((ol e.b).length : Int) = 0 ∧ e.s = 0 else
 if e.k = 2 then (0 ≤ e.n ∧ e.n ≤ 65535) ∧ ((ol e.b).length : Int) ≤ 255 ∧ e.s = 0 else
 if e.k = 3 then (0 ≤ e.n ∧ e.n ≤ 255) ∧ ((ol e.b).length : Int) ≤ 64 ∧ e.s = 0 else
 if e.k = 4 then e.n = 0 ∧ ((ol e.b).length : Int) ≤ 255 ∧ e.s = 0 else
 if e.k = 5 then e.n = 0 ∧ ((ol e.b).length : Int) ≤ 64 ∧ e.s = 0 else
 if e.k = 6 then (1 ≤ e.n ∧ e.n ≤ 4) ∧ ((ol e.b).length : Int) = 0 ∧ e.s ≤ 65535 else
 if e.k = 7 then (1 ≤ e.n ∧ e.n ≤ 4) ∧ ((ol e.b).length : Int) = 0 ∧ e.s ≤ 65535 else
 if e.k = 8 then e.n = 0 ∧ ((ol e.b).length : Int) = 0 ∧ e.s ≤ 65535 else False
theorem refOK_chk {e : Ev} (h0 : 0 ≤ e.s) : (refOK e → chk e = 0) ∧ (¬ refOK e → chk e = 290) := by
 have hd : e.s.fdiv 65536 = e.s / 65536 := Int.fdiv_eq_ediv_of_nonneg _ (by omega)
 unfold refOK chk kd
 rw [hd]
 by_cases h1 : e.k = 1
 ·rw [if_pos h1, if_pos h1]
  simp only [true_and, ne_eq]
  refine ⟨fun h => if_neg (by split <;> omega), fun h => if_pos (by split <;> omega)⟩
 rw [if_neg h1, if_neg h1]
 by_cases h2 : e.k = 2
 ·rw [if_pos h2, if_pos h2]
  simp only [true_and, ne_eq]
  refine ⟨fun h => if_neg (by split <;> omega), fun h => if_pos (by split <;> omega)⟩
 rw [if_neg h2, if_neg h2]
 by_cases h3 : e.k = 3
 ·rw [if_pos h3, if_pos h3]
  simp only [true_and, ne_eq]
  refine ⟨fun h => if_neg (by split <;> omega), fun h => if_pos (by split <;> omega)⟩
 rw [if_neg h3, if_neg h3]
 by_cases h4 : e.k = 4
 ·rw [if_pos h4, if_pos h4]
  simp only [true_and, ne_eq]
  refine ⟨fun h => if_neg (by split <;> omega), fun h => if_pos (by split <;> omega)⟩
 rw [if_neg h4, if_neg h4]
 by_cases h5 : e.k = 5
 ·rw [if_pos h5, if_pos h5]
  simp only [true_and, ne_eq]
  refine ⟨fun h => if_neg (by split <;> omega), fun h => if_pos (by split <;> omega)⟩
 rw [if_neg h5, if_neg h5]
 by_cases h6 : e.k = 6
 ·rw [if_pos h6, if_pos h6]
  simp only [Bool.true_eq_false, false_and, false_or, ne_eq]
  refine ⟨fun h => if_neg (by split <;> omega), fun h => if_pos (by split <;> omega)⟩
 rw [if_neg h6, if_neg h6]
 by_cases h7 : e.k = 7
 ·rw [if_pos h7, if_pos h7]
  simp only [Bool.true_eq_false, false_and, false_or, ne_eq]
  refine ⟨fun h => if_neg (by split <;> omega), fun h => if_pos (by split <;> omega)⟩
 rw [if_neg h7, if_neg h7]
 by_cases h8 : e.k = 8
 ·rw [if_pos h8, if_pos h8]
  simp only [Bool.true_eq_false, false_and, false_or, ne_eq]
  refine ⟨fun h => if_neg (by split <;> omega), fun h => if_pos (by split <;> omega)⟩
 rw [if_neg h8, if_neg h8]
 exact ⟨fun h => h.elim, fun _ => rfl⟩
theorem within_run (n a b : Int) : runFn Tryz.prog H N ppol 24 .none [.int .i64 n, .int .i64 a, .int .i64 b] S = some (.ret (.bool (decide (a ≤ n ∧ n ≤ b))), .none, S) := by
 rw [runFn_eq Tryz.func24 (by rfl)]
 rcases Classical.em (a ≤ n) with h | h
 ·rcases Classical.em (n ≤ b) with h' | h' <;> simp [Tryz.f24, h, h']
 ·simp [Tryz.f24, h]
theorem within_call {m : Nat} (n a b : Int) (S : Sto) : (handler Tryz.prog ppol (m + 1)).call (.func 24) [.int .i64 n, .int .i64 a, .int .i64 b] S = some (.ret (.bool (decide (a ≤ n ∧ n ≤ b))), S) := by
 rw [call_func (by rfl), within_run]; rfl
theorem wrapU {s : Int} (h0 : 0 ≤ s) (h1 : s < 4294967296) : IntKind.i64.wrap s = s := Go.IntWalk.i64_in _ ⟨by omega, by omega⟩
theorem cv27_2 (x : Int) : convA Tryz.prog 27 2 (.int .u32 x) = some (.int .i64 (IntKind.i64.wrap x)) := by kernel_rfl
theorem refChk_run {m : Nat} (e : Ev) (h0 : 0 ≤ e.s) (h1 : e.s < 4294967296) : runFn Tryz.prog (handler Tryz.prog ppol (m + 1)) N ppol 13 .none [.agg (evC e)] S = some (.ret (.int .i64 (chk e)), .none, S) := by
 have hw := wrapU h0 h1
 rw [runFn_eq Tryz.func13 (by rfl)]
 simp [Tryz.f13, evC]
 rw [evDraw_go]
 rotate_left
 ·kernel_rfl
 ·rfl
 simp [hw, cv27_2]
 rcases Classical.em (e.k = 1) with hk1 | hk1
 ·have hr : refOK e ↔ (0 ≤ e.n ∧ e.n ≤ 255) ∧ ((ol e.b).length : Int) = 0 ∧ e.s = 0 := by unfold refOK; simp [hk1]
  rcases Classical.em ((0 ≤ e.n ∧ e.n ≤ 255)) with a | a
  ·rcases Classical.em (((ol e.b).length : Int) = 0) with b | b
   ·rcases Classical.em (e.s = 0) with c | c
    ·rw [(refOK_chk h0).1 (hr.2 ⟨a, b, c⟩)]; simp [hk1, a, b, c, within_call]
    ·rw [(refOK_chk h0).2 (fun h => c (hr.1 h).2.2)]; simp [beq_false_of_ne c, hk1, a, b, within_call]
   ·rw [(refOK_chk h0).2 (fun h => b (hr.1 h).2.1)]; simp [beq_false_of_ne b, hk1, a, within_call]
  ·rw [(refOK_chk h0).2 (fun h => a (hr.1 h).1)]; simp [hk1, a, within_call]
 rcases Classical.em (e.k = 2) with hk2 | hk2
 ·have hr : refOK e ↔ (0 ≤ e.n ∧ e.n ≤ 65535) ∧ ((ol e.b).length : Int) ≤ 255 ∧ e.s = 0 := by unfold refOK; simp [hk2]
  rcases Classical.em ((0 ≤ e.n ∧ e.n ≤ 65535)) with a | a
  ·rcases Classical.em (((ol e.b).length : Int) ≤ 255) with b | b
   ·rcases Classical.em (e.s = 0) with c | c
    ·rw [(refOK_chk h0).1 (hr.2 ⟨a, b, c⟩)]; simp [hk2, a, b, c, within_call]
    ·rw [(refOK_chk h0).2 (fun h => c (hr.1 h).2.2)]; simp [beq_false_of_ne c, hk2, a, b, within_call]
   ·rw [(refOK_chk h0).2 (fun h => b (hr.1 h).2.1)]; simp [hk2, a, b, within_call]
  ·rw [(refOK_chk h0).2 (fun h => a (hr.1 h).1)]; simp [hk2, a, within_call]
 rcases Classical.em (e.k = 3) with hk3 | hk3
 ·have hr : refOK e ↔ (0 ≤ e.n ∧ e.n ≤ 255) ∧ ((ol e.b).length : Int) ≤ 64 ∧ e.s = 0 := by unfold refOK; simp [hk3]
  rcases Classical.em ((0 ≤ e.n ∧ e.n ≤ 255)) with a | a
  ·rcases Classical.em (((ol e.b).length : Int) ≤ 64) with b | b
   ·rcases Classical.em (e.s = 0) with c | c
    ·rw [(refOK_chk h0).1 (hr.2 ⟨a, b, c⟩)]; simp [hk3, a, b, c, within_call]
    ·rw [(refOK_chk h0).2 (fun h => c (hr.1 h).2.2)]; simp [beq_false_of_ne c, hk3, a, b, within_call]
   ·rw [(refOK_chk h0).2 (fun h => b (hr.1 h).2.1)]; simp [hk3, a, b, within_call]
  ·rw [(refOK_chk h0).2 (fun h => a (hr.1 h).1)]; simp [hk3, a, within_call]
 rcases Classical.em (e.k = 4) with hk4 | hk4
 ·have hr : refOK e ↔ e.n = 0 ∧ ((ol e.b).length : Int) ≤ 255 ∧ e.s = 0 := by unfold refOK; simp [hk4]
  rcases Classical.em (e.n = 0) with a | a
  ·rcases Classical.em (((ol e.b).length : Int) ≤ 255) with b | b
   ·rcases Classical.em (e.s = 0) with c | c
    ·rw [(refOK_chk h0).1 (hr.2 ⟨a, b, c⟩)]; simp [hk4, a, b, c]
    ·rw [(refOK_chk h0).2 (fun h => c (hr.1 h).2.2)]; simp [beq_false_of_ne c, hk4, a, b]
   ·rw [(refOK_chk h0).2 (fun h => b (hr.1 h).2.1)]; simp [hk4, a, b]
  ·rw [(refOK_chk h0).2 (fun h => a (hr.1 h).1)]; simp [beq_false_of_ne a, hk4]
 rcases Classical.em (e.k = 5) with hk5 | hk5
 ·have hr : refOK e ↔ e.n = 0 ∧ ((ol e.b).length : Int) ≤ 64 ∧ e.s = 0 := by unfold refOK; simp [hk5]
  rcases Classical.em (e.n = 0) with a | a
  ·rcases Classical.em (((ol e.b).length : Int) ≤ 64) with b | b
   ·rcases Classical.em (e.s = 0) with c | c
    ·rw [(refOK_chk h0).1 (hr.2 ⟨a, b, c⟩)]; simp [hk5, a, b, c]
    ·rw [(refOK_chk h0).2 (fun h => c (hr.1 h).2.2)]; simp [beq_false_of_ne c, hk5, a, b]
   ·rw [(refOK_chk h0).2 (fun h => b (hr.1 h).2.1)]; simp [hk5, a, b]
  ·rw [(refOK_chk h0).2 (fun h => a (hr.1 h).1)]; simp [beq_false_of_ne a, hk5]
 rcases Classical.em (e.k = 6) with hk6 | hk6
 ·have hr : refOK e ↔ (1 ≤ e.n ∧ e.n ≤ 4) ∧ ((ol e.b).length : Int) = 0 ∧ e.s ≤ 65535 := by unfold refOK; simp [hk6]
  rcases Classical.em ((1 ≤ e.n ∧ e.n ≤ 4)) with a | a
  ·rcases Classical.em (((ol e.b).length : Int) = 0) with b | b
   ·rcases Classical.em (e.s ≤ 65535) with c | c
    ·rw [(refOK_chk h0).1 (hr.2 ⟨a, b, c⟩)]; simp [hk6, a, b, c, within_call]
    ·rw [(refOK_chk h0).2 (fun h => c (hr.1 h).2.2)]; simp [hk6, a, b, c, within_call]
   ·rw [(refOK_chk h0).2 (fun h => b (hr.1 h).2.1)]; simp [beq_false_of_ne b, hk6, a, within_call]
  ·rw [(refOK_chk h0).2 (fun h => a (hr.1 h).1)]; simp [hk6, a, within_call]
 rcases Classical.em (e.k = 7) with hk7 | hk7
 ·have hr : refOK e ↔ (1 ≤ e.n ∧ e.n ≤ 4) ∧ ((ol e.b).length : Int) = 0 ∧ e.s ≤ 65535 := by unfold refOK; simp [hk7]
  rcases Classical.em ((1 ≤ e.n ∧ e.n ≤ 4)) with a | a
  ·rcases Classical.em (((ol e.b).length : Int) = 0) with b | b
   ·rcases Classical.em (e.s ≤ 65535) with c | c
    ·rw [(refOK_chk h0).1 (hr.2 ⟨a, b, c⟩)]; simp [hk7, a, b, c, within_call]
    ·rw [(refOK_chk h0).2 (fun h => c (hr.1 h).2.2)]; simp [hk7, a, b, c, within_call]
   ·rw [(refOK_chk h0).2 (fun h => b (hr.1 h).2.1)]; simp [beq_false_of_ne b, hk7, a, within_call]
  ·rw [(refOK_chk h0).2 (fun h => a (hr.1 h).1)]; simp [hk7, a, within_call]
 rcases Classical.em (e.k = 8) with hk8 | hk8
 ·have hr : refOK e ↔ e.n = 0 ∧ ((ol e.b).length : Int) = 0 ∧ e.s ≤ 65535 := by unfold refOK; simp [hk8]
  rcases Classical.em (e.n = 0) with a | a
  ·rcases Classical.em (((ol e.b).length : Int) = 0) with b | b
   ·rcases Classical.em (e.s ≤ 65535) with c | c
    ·rw [(refOK_chk h0).1 (hr.2 ⟨a, b, c⟩)]; simp [hk8, a, b, c]
    ·rw [(refOK_chk h0).2 (fun h => c (hr.1 h).2.2)]; simp [hk8, a, b, c]
   ·rw [(refOK_chk h0).2 (fun h => b (hr.1 h).2.1)]; simp [beq_false_of_ne b, hk8, a]
  ·rw [(refOK_chk h0).2 (fun h => a (hr.1 h).1)]; simp [beq_false_of_ne a, hk8]
 rw [(refOK_chk h0).2 (by unfold refOK; simp [hk1, hk2, hk3, hk4, hk5, hk6, hk7, hk8])]
 simp [beq_false_of_ne hk1, beq_false_of_ne hk2, beq_false_of_ne hk3, beq_false_of_ne hk4, beq_false_of_ne hk5, beq_false_of_ne hk6, beq_false_of_ne hk7, beq_false_of_ne hk8]
end Go.Ab.Seat
namespace Go.Ab
variable {P : Program} {pol : Pol} {f : FuncId}
theorem call_freeN {n : Nat} {args : List AV} {S S1 : Sto} {v : AV} {p : AMode} (hf : pol.free f = true) (ha : args ≠ []) (h : runFn P (handler P pol n) n pol f .none args { heap := [], next := S.next } = some (.ret v, p, S1)) :
  (handler P pol (n + 1)).call (.func f) args S = some (.ret v, { heap := S.heap, next := S1.next }) := by
 simp only [handler]
 rw [if_pos hf]
 cases args with
 | nil => exact absurd rfl ha
 | cons a r => rw [h]
end Go.Ab
namespace Go.Ab.Seat
open Go.Proofs
set_option maxRecDepth 100000
set_option maxHeartbeats 2000000
variable {H : Handler} {N : Nat} {S : Sto}
theorem check_call {m : Nat} (e : Ev) (S : Sto) : (handler Tryz.prog ppol (m + 3)).call (.func 12) [.agg (evC e)] S = some (.ret (.int .i64 (chk e)), { heap := S.heap, next := S.next + 8 }) := by
 rw [call_freeN (by rfl) (by simp) (check_run e)]
 rfl
def u8 (x : Int) : UInt8 := UInt8.ofNat (x % 256).toNat
theorem wrap8 (x : Int) : IntKind.u8.wrap x = x % 256 := rfl
theorem row_u8 (x : Int) : [AV.int .u8 (x % 256)] = byteRow (u8 x) := by
 simp [byteRow, u8]; omega
theorem cv25_5 (x : Int) : convA Tryz.prog 25 5 (.int .i64 x) = some (.int .u8 (IntKind.u8.wrap x)) := by kernel_rfl
theorem cv3_5 (x : Int) : convA Tryz.prog 3 5 (.int .i64 x) = some (.int .u8 (IntKind.u8.wrap x)) := by kernel_rfl
theorem cv27_5 (x : Int) : convA Tryz.prog 27 5 (.int .u32 x) = some (.int .u8 (IntKind.u8.wrap x)) := by kernel_rfl
theorem not_big5 (n : Nat) (h : n < 2 ^ 40) : ¬ bigA Tryz.prog 5 n := by
 unfold bigA
 simp
 omega
theorem app26 {st : St} {v : AV} {rows more : List (List AV)} (hm : rowsIn st.S 1 v = some more) (hb : rows.length + more.length < 2 ^ 40) : appendS Tryz.prog 1 26 26 (.sl true 1 rows) v st = some (.val (.sl true 1 (rows ++ more)) st) :=
 app_own Tryz.underlying26 Tryz.underlying26 (by simp) tyzero5 rfl tycells5 rfl hm (not_big5 _ hb)
def outV (own : Bool) : List UInt8 → AV
 | [] => .nilsl
 | bs => .sl own 1 (bs.map byteRow)
section outV
variable (w : Bool) (bs : List UInt8)
theorem outV_strip : (outV w bs).strip = outV false bs := by cases bs <;> rfl
theorem outV_strip0 : (outV w bs).strip0 = outV false bs := by cases bs <;> rfl
theorem outV_strip1 : (outV w bs).strip1 = outV false bs := by cases bs <;> rfl
theorem outV_clr : (outV w bs).clr = outV w bs := by cases bs <;> rfl
theorem outV_noLp : (outV w bs).noLp = outV w bs := by cases bs <;> rfl
theorem outV_okTop : okTop (outV w bs) = true := by cases bs <;> rfl
theorem outV_cells : (outV w bs).cells = [outV w bs] := by cases bs <;> rfl
theorem outV_lpAt (s : Nat) : lpAt s (outV w bs) = true := by cases bs <;> rfl
theorem outV_nb (b : Bool) : nbAt.nb1 (outV w bs) b = b := by cases bs <;> rfl
theorem outV_nbO {pol : Pol} {f : FuncId} (o : Oper) (r : Option (AExit × St)) : nbO pol f o (outV w bs) r = r := by cases bs <;> rfl
attribute [simp] outV_nbO outV_nb outV_strip outV_strip0 outV_strip1 outV_clr outV_noLp outV_okTop outV_cells outV_lpAt
end outV
theorem app_g {st : St} {bs l : List UInt8} {mv : AV} (hm : rowsIn st.S 1 mv = some (l.map byteRow)) (hl : l ≠ []) (hb : bs.length + l.length < 2 ^ 39) : appendS Tryz.prog 1 26 26 (outV true bs) mv st = some (.val (outV true (bs ++ l)) st) := by
 cases bs with
 | nil =>
  show appendS Tryz.prog 1 26 26 .nilsl mv st = _
  unfold appendS
  simp only [Tryz.underlying26, tyzero5]
  rw [if_pos (by rw [tycells5]; rfl), if_neg (by decide), more_slice Tryz.underlying26 (by simp), tycells5, hm]
  cases l with
  | nil => exact absurd rfl hl
  | cons c l => simp [appInline, not_big5 (l.length + 1) (by simp at hb; omega), outV]
 | cons b bs =>
  refine (app26 hm (by simp at hb ⊢; omega)).trans ?_
  simp [outV]
theorem app_1 {st : St} {bs : List UInt8} (hb : bs.length + 1 < 2 ^ 39) (v : Int) : appendS Tryz.prog 1 26 26 (outV true bs) (.sl false 1 [[.int .u8 (IntKind.u8.wrap v)]]) st = some (.val (outV true (bs ++ [u8 v])) st) :=
 app_g (by simp [rowsIn, rowsOf, wrap8, row_u8]) (by simp) (by simpa using hb)
theorem app_2 {st : St} {bs : List UInt8} (hb : bs.length + 2 < 2 ^ 39) (v w : Int) : appendS Tryz.prog 1 26 26 (outV true bs) (.sl false 1 [[.int .u8 (IntKind.u8.wrap v)], [.int .u8 (IntKind.u8.wrap w)]]) st = some (.val (outV true (bs ++ [u8 v, u8 w])) st) :=
 app_g (by simp [rowsIn, rowsOf, wrap8, row_u8]) (by simp) (by simpa using hb)
theorem app_b {st : St} {bs : List UInt8} {b : Option (List UInt8)} (hn : bs ≠ []) (hb : bs.length + (ol b).length < 2 ^ 39) : appendS Tryz.prog 1 26 26 (outV true bs) (sv false 1 byteRow b) st = some (.val (outV true (bs ++ ol b)) st) := by
 cases bs with
 | nil => exact absurd rfl hn
 | cons c bs =>
  refine (app26 rowsIn_sv (by simp at hb ⊢; omega)).trans ?_
  simp [outV]
theorem bs26 (v : Int) : buildSliceA Tryz.prog 26 1 [(0, .int .u8 v)] = some (.sl true 1 [[.int .u8 v]]) := by kernel_rfl
theorem bs26b (v w : Int) : buildSliceA Tryz.prog 26 2 [(0, .int .u8 v), (1, .int .u8 w)] = some (.sl true 1 [[.int .u8 v], [.int .u8 w]]) := by kernel_rfl
def nB (e : Ev) (l : Int) : Nat → List UInt8
 | 0 => []
 | w + 1 => nB e l w ++ [u8 ((e.n - l).fdiv (2 ^ (8 * w)))]
def rawK (K : Kd) (e : Ev) : List UInt8 := [u8 (e.k - 1)] ++ nB e K.l K.w.toNat ++ (if 0 ≤ K.m then u8 (ol e.b).length :: ol e.b else []) ++ (if K.st then [u8 e.s, u8 (e.s.fdiv 256)] else [])
def rawP (e : Ev) : List UInt8 := match kd e.k with
 | some K => rawK K e
 | none => []
theorem kd_ms {k : Int} {K : Kd} (h : kd k = some K) (hm : 0 ≤ K.m) : K.st = false := by
 unfold kd at h
 repeat' split at h
 all_goals first | (cases h; first | rfl | (simp at hm)) | cases h
theorem rawP_len (e : Ev) : (rawP e).length ≤ (ol e.b).length + 6 := by
 unfold rawP
 cases h : kd e.k with
 | none => simp
 | some K =>
  simp only [rawK, List.length_append]
  have h1 : (nB e K.l K.w.toNat).length ≤ 2 := by
   unfold kd at h
   repeat' split at h
   all_goals first | (cases h; simp [nB]) | cases h
  have h2 : (if 0 ≤ K.m then u8 (ol e.b).length :: ol e.b else []).length ≤ (ol e.b).length + 1 := by split <;> simp
  have h3 : (if K.st then [u8 e.s, u8 (e.s.fdiv 256)] else []).length ≤ 2 := by split <;> simp
  simp only [List.length_singleton]
  omega
theorem flat_len : ∀ l : List Ev, (∀ e ∈ l, (ol e.b).length < 2 ^ 20) → (l.flatMap rawP).length ≤ l.length * 2 ^ 21
 | [], _ => by simp
 | e :: l, h => by
  have h1 := rawP_len e
  have h2 := h e (by simp)
  have h3 := flat_len l fun e he => h e (by simp [he])
  simp only [List.flatMap_cons, List.length_append, List.length_cons]
  omega
theorem kd_w {k : Int} {K : Kd} (h : kd k = some K) : K.w = 0 ∨ K.w = 1 ∨ K.w = 2 := by
 unfold kd at h
 repeat' split at h
 all_goals first | (cases h; simp) | cases h
theorem kd_rg {k : Int} {K : Kd} (h : kd k = some K) : (1 ≤ k ∧ k ≤ 8) ∧ (0 ≤ K.l ∧ K.l ≤ 1) ∧ K.g ≤ 65535 := by
 unfold kd at h
 repeat' split at h
 all_goals first | (cases h; simp; omega) | cases h
theorem chk_rg {e : Ev} {K : Kd} (hK : kd e.k = some K) (h : chk e = 0) : K.l ≤ e.n ∧ e.n ≤ 65535 := by
 have hr := kd_rg hK
 unfold chk at h
 rw [hK] at h
 simp only at h
 rcases Classical.em (e.n < K.l ∨ K.g < e.n ∨ (if 0 < K.m then K.m else 0) < ((ol e.b).length : Int) ∨ K.st = false ∧ e.s ≠ 0 ∨ e.s.fdiv 65536 ≠ 0) with h1 | h1
 ·rw [if_pos h1] at h; omega
 ·omega
theorem look_ok {e : Ev} {K : Kd} (hK : kd e.k = some K) : ∃ g x, ∀ n, lookA Tryz.prog { heap := (kSto S).heap, next := n } 68 (.map S.next) (.int .i64 e.k) false = some (.agg [.int .i64 K.l, .int .i64 K.g, .int .i64 K.w, .int .i64 K.m, .bool K.st, .fn (.func g) [] x]) := by
 rcases look_kinds (S := S) e.k false with ⟨K', g, x, h1, h2⟩ | ⟨h1, h2⟩
 ·rw [hK] at h1
  cases h1
  exact ⟨g, x, fun n => h2⟩
 ·rw [hK] at h1; cases h1
theorem chk_or (e : Ev) : chk e = 0 ∨ chk e = 290 := by
 unfold chk
 cases kd e.k with
 | none => exact .inr rfl
 | some K =>
  simp only
  exact (Classical.em _).elim (fun h => .inr (if_pos h)) (fun h => .inl (if_neg h))
theorem chk_kd {e : Ev} (h : chk e = 0) : ∃ K, kd e.k = some K := by
 unfold chk at h
 cases hk : kd e.k with
 | none => rw [hk] at h; cases h
 | some K => exact ⟨K, rfl⟩
structure RI (l : List Ev) where
 i : Nat
 hi : i ≤ l.length
 ok : ∀ e ∈ l.take i, chk e = 0
 n : Nat
 a : AV
 b : AV
 c : AV
 d : AV
def rawE (S : Sto) (v : AV) (l : List Ev) (x : RI l) : St :=
 { env := envOf 79 [(4, outV true ((l.take x.i).flatMap rawP)), (5, .int .i64 0), (6, .map S.next), (8, x.a), (9, x.b), (12, v), (13, .int .i64 l.length), (14, .int .i64 x.i), (34, x.c), (35, x.d)], defs := [], par := .none, S := { heap := (kSto S).heap, next := x.n } }
def rawT (S : Sto) (l : List Ev) (r : AExit × St) : Prop := ∃ env n, r = (.exit 0, { env := env, defs := [], par := .none, S := { heap := (kSto S).heap, next := n } }) ∧ env.length = 79 ∧
 ((∀ e ∈ l, chk e = 0) ∧ getT env 4 = outV true (l.flatMap rawP) ∧ getT env 5 = .int .i64 0 ∨ (∃ e ∈ l, chk e ≠ 0) ∧ getT env 4 = .nilsl ∧ getT env 5 = .int .i64 290)
theorem raw_run {m : Nat} (own : Bool) (o : Option (List Ev)) (hN : (ol o).length < N) (h3 : 3 ≤ N) (hs : ∀ e ∈ ol o, (ol e.b).length < 2 ^ 20) (hl : (ol o).length < 2 ^ 16) :
  ∃ n, runFn Tryz.prog (handler Tryz.prog ppol (m + 3)) N ppol 14 .none [sv own 4 evC o] S = some (.ret (.tup [if ∀ e ∈ ol o, chk e = 0 then outV false ((ol o).flatMap rawP) else .nilsl, .int .i64 (if ∀ e ∈ ol o, chk e = 0 then 0 else 290)]), .none, { heap := (kSto S).heap, next := n }) := by
 obtain ⟨N, rfl⟩ : ∃ k, N = k + 3 := ⟨N - 3, by omega⟩
 rw [runFn_eq Tryz.func14 (by rfl)]
 simp [Tryz.f14, kinds_call]
 generalize hL : loopN _ _ _ _ = L
 obtain ⟨x, st', rfl, hT⟩ := loop_fam' hL (rawE S (sv false 4 evC o) (ol o)) (fun _ => rawT S (ol o)) (fun x => (ol o).length - x.i) ⟨0, Nat.zero_le _, by simp, S.next + 8, .undef, .undef, .undef, .undef⟩ (Nat.lt_of_le_of_lt (Nat.sub_le _ _) hN) (by simp [rawE, outV]; rfl) (fun x => by
  obtain ⟨i, hi, hok, n, va, vb, vc, vd⟩ := x
  clear hL
  rcases Nat.lt_or_ge i (ol o).length with h | h
  ·have c1 : (i : Int) < (ol o).length := by omega
   obtain ⟨e, he⟩ : ∃ e, (ol o)[i]? = some e := ⟨_, List.getElem?_eq_getElem h⟩
   have hem : e ∈ ol o := List.mem_of_getElem? he
   have hck := fun S => check_call (m := m) e S
   simp only [evC] at hck
   rcases chk_or e with hc | hc
   ·rw [hc] at hck
    obtain ⟨K, hK⟩ := chk_kd hc
    obtain ⟨g, x, hlk⟩ := look_ok (S := S) hK
    have hr := kd_rg hK
    have hr2 := chk_rg hK hc
    have w1 : IntKind.i64.wrap (e.k - 1) = e.k - 1 := Go.IntWalk.i64_in _ (by omega)
    have w2 : IntKind.i64.wrap (e.n - K.l) = e.n - K.l := Go.IntWalk.i64_in _ (by omega)
    generalize hB : ((ol o).take i).flatMap rawP = B
    have hBl : B.length + 2 ^ 21 < 2 ^ 39 := by
     have h1 := flat_len ((ol o).take i) fun e he => hs e (List.mem_of_mem_take he)
     rw [hB, List.length_take] at h1
     omega
    have hbe := hs e hem
    have hT : ((ol o).take (i + 1)).flatMap rawP = B ++ rawK K e := by
     rw [List.take_add_one, he, ← hB]
     simp [rawP, hK]
    have hok' : ∀ e' ∈ (ol o).take (i + 1), chk e' = 0 := by
     intro e' h'
     rw [List.take_add_one, he] at h'
     rcases List.mem_append.1 h' with h' | h'
     ·exact hok e' h'
     ·simp at h'; rw [h']; exact hc
    have w3 : IntKind.i64.wrap ((i : Int) + 1) = (i : Int) + 1 := Go.IntWalk.i64_in _ (by omega)
    have a1 := fun st v => app_1 (st := st) (bs := B) (by omega) v
    have a2 := fun a st v => app_1 (st := st) (bs := B ++ [a]) (by simp; omega) v
    have a3 := fun a b st v => app_1 (st := st) (bs := B ++ [a, b]) (by simp; omega) v
    have a4 := fun a b c st v => app_1 (st := st) (bs := B ++ [a, b, c]) (by simp; omega) v
    have b2 := fun a b st => app_b (st := st) (bs := B ++ [a, b]) (b := e.b) (by simp) (by simp; omega)
    have b3 := fun a b c st => app_b (st := st) (bs := B ++ [a, b, c]) (b := e.b) (by simp) (by simp; omega)
    have b4 := fun a b c d st => app_b (st := st) (bs := B ++ [a, b, c, d]) (b := e.b) (by simp) (by simp; omega)
    have d1 := fun a st v w => app_2 (st := st) (bs := B ++ [a]) (by simp; omega) v w
    have d2 := fun a b st v w => app_2 (st := st) (bs := B ++ [a, b]) (by simp; omega) v w
    have d3 := fun a b c st v w => app_2 (st := st) (bs := B ++ [a, b, c]) (by simp; omega) v w
    simp only [List.append_assoc, List.cons_append, List.nil_append] at a2 a3 a4 b2 b3 b4 d1 d2 d3
    simp [rawE, c1, index_sv Tryz.underlying22 tycells29 .i64 he, hck, evC, writeCells, hlk, w1, cv25_5, hB, bs26, a1]
    have z0 : IntKind.i64.wrap 0 = 0 := rfl
    have z1 : IntKind.i64.wrap 1 = 1 := rfl
    have z2 : IntKind.i64.wrap 2 = 2 := rfl
    have z8 : IntKind.i64.wrap 8 = 8 := rfl
    have zb : IntKind.i64.bits = 64 := rfl
    have zc : IntKind.u32.bits = 32 := rfl
    rcases kd_w hK with hw | hw | hw
    ·simp [hw, loopN]
     rcases Classical.em (0 ≤ K.m) with hm | hm
     ·have hst := kd_ms hK hm
      simp [hm]
      rw [evDraw_go]
      rotate_left
      ·kernel_rfl
      ·rfl
      simp [hst, a2, b2, cv3_5, bs26, w3]
      refine ⟨⟨i + 1, by omega, hok', n + 8, .box (evC e), .box [.int .i64 K.l, .int .i64 K.g, .int .i64 0, .int .i64 K.m, .bool false, .fn (.func g) [] x], .int .i64 0, .int .i64 0⟩, by show _ - (i + 1) < _ - i; omega, ?_⟩
      simp [rawE, hT, rawK, hw, hm, hst, nB, evC]
     ·cases hst : K.st with
      | false =>
       simp [hm, w3]
       refine ⟨⟨i + 1, by omega, hok', n + 8, .box (evC e), .box [.int .i64 K.l, .int .i64 K.g, .int .i64 0, .int .i64 K.m, .bool false, .fn (.func g) [] x], .int .i64 0, .int .i64 0⟩, by show _ - (i + 1) < _ - i; omega, ?_⟩
       simp [rawE, hT, rawK, hw, hm, hst, nB, evC]
      | true =>
       simp [hm, d1, cv27_5, bs26b, zc, w3]
       refine ⟨⟨i + 1, by omega, hok', n + 8, .box (evC e), .box [.int .i64 K.l, .int .i64 K.g, .int .i64 0, .int .i64 K.m, .bool true, .fn (.func g) [] x], .int .i64 0, .int .i64 0⟩, by show _ - (i + 1) < _ - i; omega, ?_⟩
       simp [rawE, hT, rawK, hw, hm, hst, nB, evC]
    ·simp [hw, loopN, a2, w2, cv3_5, z0, z1, zb, bs26]
     rcases Classical.em (0 ≤ K.m) with hm | hm
     ·have hst := kd_ms hK hm
      simp [hm]
      rw [evDraw_go]
      rotate_left
      ·kernel_rfl
      ·rfl
      simp [hst, a3, b3, cv3_5, bs26, w3]
      refine ⟨⟨i + 1, by omega, hok', n + 8, .box (evC e), .box [.int .i64 K.l, .int .i64 K.g, .int .i64 1, .int .i64 K.m, .bool false, .fn (.func g) [] x], .int .i64 1, .int .i64 1⟩, by show _ - (i + 1) < _ - i; omega, ?_⟩
      simp [rawE, hT, rawK, hw, hm, hst, nB, evC]
     ·cases hst : K.st with
      | false =>
       simp [hm, w3]
       refine ⟨⟨i + 1, by omega, hok', n + 8, .box (evC e), .box [.int .i64 K.l, .int .i64 K.g, .int .i64 1, .int .i64 K.m, .bool false, .fn (.func g) [] x], .int .i64 1, .int .i64 1⟩, by show _ - (i + 1) < _ - i; omega, ?_⟩
       simp [rawE, hT, rawK, hw, hm, hst, nB, evC]
      | true =>
       simp [hm, d2, cv27_5, bs26b, zc, w3]
       refine ⟨⟨i + 1, by omega, hok', n + 8, .box (evC e), .box [.int .i64 K.l, .int .i64 K.g, .int .i64 1, .int .i64 K.m, .bool true, .fn (.func g) [] x], .int .i64 1, .int .i64 1⟩, by show _ - (i + 1) < _ - i; omega, ?_⟩
       simp [rawE, hT, rawK, hw, hm, hst, nB, evC]
    ·simp [hw, loopN, a2, a3, w2, cv3_5, z0, z1, z2, z8, zb, bs26]
     rcases Classical.em (0 ≤ K.m) with hm | hm
     ·have hst := kd_ms hK hm
      simp [hm]
      rw [evDraw_go]
      rotate_left
      ·kernel_rfl
      ·rfl
      simp [hst, a4, b4, cv3_5, bs26, w3]
      refine ⟨⟨i + 1, by omega, hok', n + 8, .box (evC e), .box [.int .i64 K.l, .int .i64 K.g, .int .i64 2, .int .i64 K.m, .bool false, .fn (.func g) [] x], .int .i64 2, .int .i64 2⟩, by show _ - (i + 1) < _ - i; omega, ?_⟩
      simp [rawE, hT, rawK, hw, hm, hst, nB, evC]
     ·cases hst : K.st with
      | false =>
       simp [hm, w3]
       refine ⟨⟨i + 1, by omega, hok', n + 8, .box (evC e), .box [.int .i64 K.l, .int .i64 K.g, .int .i64 2, .int .i64 K.m, .bool false, .fn (.func g) [] x], .int .i64 2, .int .i64 2⟩, by show _ - (i + 1) < _ - i; omega, ?_⟩
       simp [rawE, hT, rawK, hw, hm, hst, nB, evC]
      | true =>
       simp [hm, d3, cv27_5, bs26b, zc, w3]
       refine ⟨⟨i + 1, by omega, hok', n + 8, .box (evC e), .box [.int .i64 K.l, .int .i64 K.g, .int .i64 2, .int .i64 K.m, .bool true, .fn (.func g) [] x], .int .i64 2, .int .i64 2⟩, by show _ - (i + 1) < _ - i; omega, ?_⟩
       simp [rawE, hT, rawK, hw, hm, hst, nB, evC]
   ·rw [hc] at hck
    simp [rawE, c1, index_sv Tryz.underlying22 tycells29 .i64 he, hck, evC, writeCells]
    exact ⟨_, _, rfl, rfl, .inr ⟨⟨e, hem, by rw [hc]; decide⟩, rfl, rfl⟩⟩
  ·have c1 : ¬ (i : Int) < (ol o).length := by omega
   have hin : i = (ol o).length := by omega
   subst hin
   simp [rawE]
   exact ⟨_, _, rfl, rfl, .inl ⟨by simpa using hok, by simp, rfl⟩⟩)
 clear hL
 obtain ⟨env, n', h1, hlen, h2⟩ := hT
 cases h1
 rcases h2 with ⟨hok, h4, h5⟩ | ⟨⟨e, he, hc⟩, h4, h5⟩
 ·simp [hlen, h4, h5, getT_setT_self, getT_setT_ne, setT_length]
  exact ⟨fun x hx h => absurd (hok x hx) h, hok⟩
 ·have hn : ¬ ∀ e ∈ ol o, chk e = 0 := fun h => hc (h e he)
  simp [hlen, h4, h5, getT_setT_self, getT_setT_ne, setT_length, hn]
end Go.Ab.Seat
namespace Go.Ab.Seat
open Go.Proofs
set_option maxRecDepth 100000
set_option maxHeartbeats 2000000
variable {H : Handler} {N : Nat} {S : Sto}
def fewB (e : Ev) : Bool := decide ((ol e.b).length ≤ 5850) && (if e.k = 1 then decide (IntKind.i64.wrap (if 0 < if 1000 < e.n then 1000 else e.n then if 1000 < e.n then 1000 else e.n else 0) ≤ 400) else true)
theorem few_run (own : Bool) (e : Ev) (hN : 3 ≤ N) : runFn Tryz.prog H N ppol 9 .none [sv own 4 evC (some [e])] S = some (.ret (.bool (fewB e)), .none, S) := by
 obtain ⟨N, rfl⟩ : ∃ k, N = k + 3 := ⟨N - 3, by omega⟩
 have ix := index_sv (own := false) (g := evC) (o := some [e]) Tryz.underlying22 tycells29 .i64 (i := 0) (x := e) rfl
 have ix0 : indexAddrA Tryz.prog 22 (sv false 4 evC (some [e])) (.int .i64 0) = some (.fptr (evC e)) := ix
 simp only [evC] at ix0
 have ol1 : ol (some [e]) = [e] := rfl
 have z1 : IntKind.i64.wrap 150 = 150 := rfl
 have z2 : IntKind.i64.wrap 1 = 1 := rfl
 have z3 : IntKind.i64.wrap 6151 = 6151 := rfl
 have z0 : IntKind.i64.wrap 0 = 0 := rfl
 unfold fewB
 rw [runFn_eq Tryz.func9 (by rfl)]
 rcases Classical.em ((6001 : Int) < ((ol e.b).length : Int)) with h1 | h1
 ·have h3 : ¬ (ol e.b).length ≤ 5850 := by omega
  rcases Classical.em (e.k = 1) with h2 | h2
  ·simp [Tryz.f9, loopN, ix0, ol1, foldA, foldB, min2, max2, h1, z1, z2, z3, h2, h3]
  ·simp [Tryz.f9, loopN, ix0, ol1, foldA, foldB, min2, h1, z1, z2, z3, beq_false_of_ne h2, h3]
 ·have z4 : IntKind.i64.wrap (150 + ((ol e.b).length : Int)) = 150 + ((ol e.b).length : Int) := Go.IntWalk.i64_in _ (by omega)
  rcases Classical.em ((ol e.b).length ≤ 5850) with h3 | h3
  ·have h4 : 150 + ((ol e.b).length : Int) ≤ 6000 := by omega
   rcases Classical.em (e.k = 1) with h2 | h2
   ·simp [Tryz.f9, loopN, ix0, ol1, foldA, foldB, min2, max2, h1, z1, z2, z4, h2, h3, h4]
   ·simp [Tryz.f9, loopN, ix0, ol1, foldA, foldB, min2, h1, z1, z2, z4, h2, beq_false_of_ne h2, h3, h4]
  ·have h4 : ¬ 150 + ((ol e.b).length : Int) ≤ 6000 := by omega
   rcases Classical.em (e.k = 1) with h2 | h2
   ·simp [Tryz.f9, loopN, ix0, ol1, foldA, foldB, min2, max2, h1, z1, z2, z4, h2, h3, h4]
   ·simp [Tryz.f9, loopN, ix0, ol1, foldA, foldB, min2, h1, z1, z2, z4, beq_false_of_ne h2, h3, h4]
theorem few_call {m : Nat} (hm : 3 ≤ m) (own : Bool) (e : Ev) (S : Sto) : (handler Tryz.prog ppol (m + 1)).call (.func 9) [sv own 4 evC (some [e])] S = some (.ret (.bool (fewB e)), S) := by
 rw [call_func (by rfl), few_run own e hm]; rfl
theorem few_le {e : Ev} (h : fewB e = true) : (ol e.b).length ≤ 5850 := by
 unfold fewB at h
 simp at h
 exact h.1
theorem u8_tmod {x : Int} (h : 0 ≤ x) : u8 (x.tmod 256) = u8 x := by
 rw [Int.tmod_eq_emod_of_nonneg h]
 simp [u8]
theorem u8_tdiv {x : Int} (h : 0 ≤ x) : u8 (x.tdiv 256) = u8 (x.fdiv 256) := by
 rw [Int.tdiv_eq_ediv_of_nonneg h, Int.fdiv_eq_ediv_of_nonneg x (by decide)]
theorem bo1 (v : Int) : buildSliceA Tryz.prog 26 1 [(0, .int .u8 (IntKind.u8.wrap v))] = some (outV true [u8 v]) := by
 rw [bs26]; simp [outV, wrap8, row_u8]
theorem bo2 (v w : Int) : buildSliceA Tryz.prog 26 2 [(0, .int .u8 (IntKind.u8.wrap v)), (1, .int .u8 (IntKind.u8.wrap w))] = some (outV true [u8 v, u8 w]) := by
 rw [bs26b]; simp [outV, wrap8, row_u8]
theorem app_oo {st : St} {bs l : List UInt8} (hn : l ≠ []) (hb : bs.length + l.length < 2 ^ 39) : appendS Tryz.prog 1 26 26 (outV true bs) (outV false l) st = some (.val (outV true (bs ++ l)) st) := by
 refine app_g ?_ hn hb
 cases l with
 | nil => exact absurd rfl hn
 | cons c l => simp [outV, rowsIn, rowsOf]
theorem refraw_run {m : Nat} {e : Ev} (hc : chk e = 0) (hb : (ol e.b).length < 2 ^ 20) (hs : 0 ≤ e.s) (hs' : e.s < 4294967296) : runFn Tryz.prog (handler Tryz.prog ppol m) N ppol 25 .none [.agg (evC e)] S = some (.ret (outV false (rawP e)), .none, S) := by
 obtain ⟨K, hK⟩ := chk_kd hc
 have hr := kd_rg hK
 have hr2 := chk_rg hK hc
 have w1 : IntKind.i64.wrap (e.k - 1) = e.k - 1 := Go.IntWalk.i64_in _ (by omega)
 have w2 : IntKind.i64.wrap (e.n - 1) = e.n - 1 := Go.IntWalk.i64_in _ (by omega)
 have z0 : IntKind.i64.wrap 0 = 0 := rfl
 have z1 : IntKind.i64.wrap 1 = 1 := rfl
 have z2 : IntKind.i64.wrap 2 = 2 := rfl
 have z3 : IntKind.i64.wrap 3 = 3 := rfl
 have z4 : IntKind.i64.wrap 4 = 4 := rfl
 have z5 : IntKind.i64.wrap 5 = 5 := rfl
 have z6 : IntKind.i64.wrap 6 = 6 := rfl
 have z7 : IntKind.i64.wrap 7 = 7 := rfl
 have hn0 : 0 ≤ e.n := by omega
 have a1 := fun a c st => app_oo (st := st) (bs := [a]) (l := [c]) (by simp) (by simp)
 have a2 := fun a b c st => app_oo (st := st) (bs := [a, b]) (l := [c]) (by simp) (by simp)
 have a3 := fun a b c d st => app_oo (st := st) (bs := [a, b, c]) (l := [d]) (by simp) (by simp)
 have d1 := fun a c d st => app_oo (st := st) (bs := [a]) (l := [c, d]) (by simp) (by simp)
 have d2 := fun a b c d st => app_oo (st := st) (bs := [a, b]) (l := [c, d]) (by simp) (by simp)
 have b2 := fun a b st => app_b (st := st) (bs := [a, b]) (b := e.b) (by simp) (by simp; omega)
 have b3 := fun a b c st => app_b (st := st) (bs := [a, b, c]) (b := e.b) (by simp) (by simp; omega)
 have b4 := fun a b c d st => app_b (st := st) (bs := [a, b, c, d]) (b := e.b) (by simp) (by simp; omega)
 simp only [List.cons_append, List.nil_append] at a1 a2 a3 d1 d2 b2 b3 b4
 have t1 := u8_tmod hn0
 have t2 := u8_tdiv hn0
 have t3 := u8_tmod hs
 have t4 := u8_tdiv hs
 have q1 : IntKind.i64.wrap (e.n.tdiv 256) = e.n.tdiv 256 := by
  have h := Int.tdiv_eq_ediv_of_nonneg (b := 256) hn0
  exact Go.IntWalk.i64_in _ (by rw [h]; omega)
 have q2 : IntKind.u32.wrap (e.s.tdiv 256) = e.s.tdiv 256 := by
  rw [Int.tdiv_eq_ediv_of_nonneg hs]
  show e.s / 256 % 4294967296 = _
  omega
 rw [runFn_eq Tryz.func25 (by rfl)]
 rcases (show e.k = 1 ∨ e.k = 2 ∨ e.k = 3 ∨ e.k = 4 ∨ e.k = 5 ∨ e.k = 6 ∨ e.k = 7 ∨ e.k = 8 by omega) with h1 | h1 | h1 | h1 | h1 | h1 | h1 | h1
 ·simp [Tryz.f25, evC, h1, bo1, cv3_5, z0, a1]
  simp [rawP, kd, h1, rawK, nB]
 ·simp [Tryz.f25, evC, h1, bo1, bo2, cv3_5, z1, d1, q1, t1, t2]
  rw [evDraw_go]
  rotate_left
  ·kernel_rfl
  ·rfl
  simp [bo1, cv3_5, a3, b4]
  simp [rawP, kd, h1, rawK, nB]
 ·simp [Tryz.f25, evC, h1, bo1, cv3_5, z2, a1]
  rw [evDraw_go]
  rotate_left
  ·kernel_rfl
  ·rfl
  simp [bo1, cv3_5, a2, b3]
  simp [rawP, kd, h1, rawK, nB]
 ·simp [Tryz.f25, evC, h1, bo1, cv3_5, z3]
  rw [evDraw_go]
  rotate_left
  ·kernel_rfl
  ·rfl
  simp [bo1, cv3_5, a1, b2]
  simp [rawP, kd, h1, rawK, nB]
 ·simp [Tryz.f25, evC, h1, bo1, cv3_5, z4]
  rw [evDraw_go]
  rotate_left
  ·kernel_rfl
  ·rfl
  simp [bo1, cv3_5, a1, b2]
  simp [rawP, kd, h1, rawK, nB]
 ·simp [Tryz.f25, evC, h1, bo1, bo2, cv3_5, cv27_5, w2, z5, a1, d2, q2, t3, t4]
  simp [rawP, kd, h1, rawK, nB]
 ·simp [Tryz.f25, evC, h1, bo1, bo2, cv3_5, cv27_5, w2, z6, a1, d2, q2, t3, t4]
  simp [rawP, kd, h1, rawK, nB]
 ·simp [Tryz.f25, evC, h1, bo1, bo2, cv3_5, cv27_5, z7, d1, q2, t3, t4]
  simp [rawP, kd, h1, rawK, nB]
theorem refraw_call {m : Nat} {e : Ev} (hc : chk e = 0) (hb : (ol e.b).length < 2 ^ 20) (hs : 0 ≤ e.s) (hs' : e.s < 4294967296) (S : Sto) : (handler Tryz.prog ppol (m + 1)).call (.func 25) [.agg (evC e)] S = some (.ret (outV false (rawP e)), S) := by
 rw [call_func (by rfl), refraw_run hc hb hs hs']; rfl
theorem refchk_call {m : Nat} (e : Ev) (h0 : 0 ≤ e.s) (h1 : e.s < 4294967296) (S : Sto) : (handler Tryz.prog ppol (m + 2)).call (.func 13) [.agg (evC e)] S = some (.ret (.int .i64 (chk e)), S) := by
 rw [call_func (by rfl), refChk_run e h0 h1]; rfl
theorem rawP_ne {e : Ev} (hc : chk e = 0) : rawP e ≠ [] := by
 obtain ⟨K, hK⟩ := chk_kd hc
 simp [rawP, hK, rawK]
theorem refRaw_run {m : Nat} (own : Bool) {e : Ev} (hN : 3 ≤ N) (hb : (ol e.b).length < 2 ^ 20) (hs : 0 ≤ e.s) (hs' : e.s < 4294967296) : runFn Tryz.prog (handler Tryz.prog ppol (m + 2)) N ppol 15 .none [sv own 4 evC (some [e])] S = some (.ret (.tup [if chk e = 0 then outV false (rawP e) else .nilsl, .int .i64 (if chk e = 0 then 0 else 290)]), .none, S) := by
 obtain ⟨N, rfl⟩ : ∃ k, N = k + 3 := ⟨N - 3, by omega⟩
 have ix := index_sv (own := false) (g := evC) (o := some [e]) Tryz.underlying22 tycells29 .i64 (i := 0) (x := e) rfl
 have ix0 : indexAddrA Tryz.prog 22 (sv false 4 evC (some [e])) (.int .i64 0) = some (.fptr (evC e)) := ix
 have hck := fun S => refchk_call (m := m) e hs hs' S
 simp only [evC] at ix0 hck
 have ol1 : ol (some [e]) = [e] := rfl
 have z1 : IntKind.i64.wrap 1 = 1 := rfl
 rw [runFn_eq Tryz.func15 (by rfl)]
 rcases chk_or e with hc | hc
 ·rw [hc] at hck
  have hrw : ∀ S, (handler Tryz.prog ppol (m + 2)).call (.func 25) [.agg (evC e)] S = _ := fun S => refraw_call (m := m + 1) hc hb hs hs' S
  simp only [evC] at hrw
  have ha := fun st => app_oo (st := st) (bs := []) (rawP_ne hc) (by have := rawP_len e; simp only [List.length_nil]; omega)
  simp only [List.nil_append, show outV true [] = AV.nilsl from rfl] at ha
  simp [Tryz.f15, loopN, ix0, ol1, hck, hrw, ha, hc, z1]
 ·rw [hc] at hck
  simp [Tryz.f15, loopN, ix0, ol1, hck, hc]
end Go.Ab.Seat
