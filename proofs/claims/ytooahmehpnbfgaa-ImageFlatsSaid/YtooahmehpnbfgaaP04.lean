import Derived.Test.YtooahmehpnbfgaaP03
/- Functions whole: how they begin and end, loops, calls for all great fuels. -/
namespace Go.Ab
variable {P : Program} {H : Handler} {pol : Pol} {f : FuncId} {N : Nat} {round : Option Nat}

/-- How a function ends, behind its deferred calls. -/
def endK (P : Program) (pol : Pol) (f : FuncId) (rs : List ResultVar) (st : St) (r : Option (AMode × Sto)) : Option (AEnd × AMode × Sto) := match r with
  | some (.returning, S') => match resultsA P (pol.frz f) rs st.env S' with
    | some (vs, S'') => some (.ret (oneOf vs), st.par, freeAt st.env (pol.frees f) S'')
    | none => none
  | some (.panicking ch, S') => some (.pan ch, st.par, freeAt st.env (pol.frees f) S')
  | _ => none
def finK (P : Program) (H : Handler) (pol : Pol) (f : FuncId) (rs : List ResultVar) (r : Option (AExit × St)) : Option (AEnd × AMode × Sto) := match r with
  | some (.normal, st) | some (.ret, st) => endK P pol f rs st (unwindA H st.defs .returning st.S)
  | some (.pan ch, st) => endK P pol f rs st (unwindA H st.defs (.panicking ch) st.S)
  | _ => none
@[congr] theorem finK_congr {rs : List ResultVar} {r r' : Option (AExit × St)} (h : r = r') : finK P H pol f rs r = finK P H pol f rs r' := by rw [h]
@[congr] theorem endK_congr {rs : List ResultVar} {st : St} {r r' : Option (AMode × Sto)} (h : r = r') : endK P pol f rs st r = endK P pol f rs st r' := by rw [h]
theorem runFn_eq {fn : Func} {c : Code} {par : AMode} {args : List AV} {S : Sto} (h1 : P.funcs[f]? = some fn) (h2 : fn.body = some c) :
    runFn P H N pol f par args S = finK P H pol f fn.results.toList (evCode P H N pol f none c { env := args ++ List.replicate (fn.ntmps - args.length) .undef, defs := [], par, S }) := by
  unfold runFn
  simp only [h1, h2]
  unfold finK endK
  cases evCode P H N pol f none c { env := args ++ List.replicate (fn.ntmps - args.length) .undef, defs := [], par, S } with
  | none => rfl
  | some xs => obtain ⟨x, st⟩ := xs; cases x <;> rfl
theorem finK_normal {rs : List ResultVar} {st : St} : finK P H pol f rs (some (.normal, st)) = endK P pol f rs st (unwindA H st.defs .returning st.S) := (rfl)
theorem finK_ret {rs : List ResultVar} {st : St} : finK P H pol f rs (some (.ret, st)) = endK P pol f rs st (unwindA H st.defs .returning st.S) := (rfl)
theorem finK_pan {rs : List ResultVar} {st : St} {ch : List APan} : finK P H pol f rs (some (.pan ch, st)) = endK P pol f rs st (unwindA H st.defs (.panicking ch) st.S) := (rfl)
theorem unwind_nil (m : AMode) (S : Sto) : unwindA H [] m S = some (m, S) := (rfl)
theorem endK_ret {rs : List ResultVar} {st : St} {S : Sto} : endK P pol f rs st (some (.returning, S)) = oB (resultsA P (pol.frz f) rs st.env S) fun r => some (.ret (oneOf r.1), st.par, freeAt st.env (pol.frees f) r.2) := by
  simp only [endK, oB]
  cases resultsA P (pol.frz f) rs st.env S <;> rfl
theorem endK_pan {rs : List ResultVar} {st : St} {S : Sto} {ch : List APan} : endK P pol f rs st (some (.panicking ch, S)) = some (.pan ch, st.par, freeAt st.env (pol.frees f) S) := (rfl)
theorem resultsA_nil (fz : Bool) (env : List AV) (S : Sto) : resultsA P fz [] env S = some ([], S) := (rfl)
theorem frzV_no (S : Sto) (v : AV) : frzV false S v = (v, S) := by cases v <;> rfl
theorem frzV_agg (S : Sto) (cs : List AV) : frzV true S (.agg cs) = (.agg (frzCells S cs).1, (frzCells S cs).2) := (rfl)
theorem frzV_rsl (S : Sto) (a b c d : Nat) : frzV true S (.rsl a b c d) = frzA true S (.rsl a b c d) := (rfl)
theorem frzV_int (S : Sto) (k : IntKind) (x : Int) : frzV true S (.int k x) = (.int k x, S) := (rfl)
theorem frzV_nil (S : Sto) : frzV true S .nilsl = (.nilsl, S) := (rfl)
theorem frzCells_nil (S : Sto) : frzCells S [] = ([], S) := (rfl)
theorem frzCells_cons (S : Sto) (v : AV) (vs : List AV) : frzCells S (v :: vs) = ((frzA true S v).1 :: (frzCells (frzA true S v).2 vs).1, (frzCells (frzA true S v).2 vs).2) := (rfl)
theorem frzA_int (S : Sto) (k : IntKind) (x : Int) : frzA true S (.int k x) = (.int k x, S) := (rfl)
theorem frzA_bool (S : Sto) (x : Bool) : frzA true S (.bool x) = (.bool x, S) := (rfl)
theorem frzA_str (S : Sto) (x : List UInt8) : frzA true S (.str x) = (.str x, S) := (rfl)
theorem frzA_sl (S : Sto) (o : Bool) (es : Nat) (rows : List (List AV)) : frzA true S (.sl o es rows) = (.sl o es rows, S) := (rfl)
theorem frzA_no (S : Sto) (v : AV) : frzA false S v = (v, S) := (rfl)
theorem frzA_nil (fz : Bool) (S : Sto) : frzA fz S .nilsl = (.nilsl, S) := by cases fz <;> rfl
theorem frzA_arr {S : Sto} {id es : Nat} {rows : List (List AV)} (h : S.get id = some (.arr es rows)) : frzA true S (.rsl id es 0 rows.length) = (.sl false es rows, S.drop id) := by
  simp [frzA, h]
theorem resultsA_tmp (fz : Bool) (t : Tmp) (rs : List ResultVar) (env : List AV) (S : Sto) : resultsA P fz (.tmp t :: rs) env S = oB (resultsA P fz rs (setT env t (getT env t).strip) (frzV fz S (getT env t).clr).2) fun r => some ((frzV fz S (getT env t).clr).1 :: r.1, r.2) := by
  simp only [resultsA, resultA, opt_tmp, stripAt_cons, stripAt_nil, oB]
  cases resultsA P fz rs (setT env t (getT env t).strip) (frzV fz S (getT env t).clr).2 <;> rfl
/-- A result that lies in a variable. -/
def resK (P : Program) (fz : Bool) (t : TypeId) (a : AV) (env : List AV) (S : Sto) : Option (AV × List AV × Sto) := match a with
  | .ptr id off => match S.get id with
    | some (.cells cs) => (takeCells P t off cs).map fun (v, cs') => ((frzV fz (S.put id (.cells cs')) v).1, env, (frzV fz (S.put id (.cells cs')) v).2)
    | _ => none
  | .lptr s off => match env.getD s .undef with
    | .box cs => (takeCells P t off cs).map fun (v, cs') => ((frzV fz S v).1, env.set s (.box cs'), (frzV fz S v).2)
    | _ => none
  | _ => none
theorem resultsA_cell (a : Tmp) (t : TypeId) (fz : Bool) (rs : List ResultVar) (env : List AV) (S : Sto) : resultsA P fz (.cell a t :: rs) env S = oB (resK P fz t (adrOf a (getT env a)) env S) fun q => oB (resultsA P fz rs q.2.1 q.2.2) fun r => some (q.1 :: r.1, r.2) := by
  simp only [resultsA, resultA, adrT_tmp, oB]
  unfold resK
  generalize adrOf a (getT env a) = v
  cases v <;> try rfl
  · rename_i id off
    simp only
    cases S.get id with
    | none => rfl
    | some o =>
      cases o <;> try rfl
      rename_i cs
      simp only
      cases takeCells P t off cs with
      | none => rfl
      | some q => simp only [Option.map_some]; cases resultsA P fz rs env (frzV fz (S.put id (.cells q.2)) q.1).2 <;> rfl
  · rename_i s off
    simp only
    cases env.getD s .undef <;> try rfl
    rename_i cs
    simp only
    cases takeCells P t off cs with
    | none => rfl
    | some q => simp only [Option.map_some]; cases resultsA P fz rs (env.set s (.box q.2)) (frzV fz S q.1).2 <;> rfl
theorem resK_ptr (fz : Bool) (t : TypeId) (id off : Nat) (env : List AV) (S : Sto) : resK P fz t (.ptr id off) env S = oB (cellsOf (S.get id)) fun cs => oB (takeCells P t off cs) fun r => some ((frzV fz (S.put id (.cells r.2)) r.1).1, env, (frzV fz (S.put id (.cells r.2)) r.1).2) := by
  simp only [resK, oB]
  cases S.get id with
  | none => rfl
  | some o =>
    cases o <;> try rfl
    rename_i cs
    simp only [cellsOf]
    cases takeCells P t off cs <;> rfl
theorem resK_lptr (fz : Bool) (t : TypeId) (s off : Nat) (env : List AV) (S : Sto) : resK P fz t (.lptr s off) env S = oB (boxOf (getT env s)) fun cs => oB (takeCells P t off cs) fun r => some ((frzV fz S r.1).1, setT env s (.box r.2), (frzV fz S r.1).2) := by
  simp only [resK, oB, getT_eq, setT_eq]
  cases getT env s <;> try rfl
  rename_i cs
  simp only [boxOf]
  cases takeCells P t off cs <;> rfl
theorem oneOf_one (v : AV) : oneOf [v] = v := (rfl)
theorem oneOf_nil : oneOf [] = .undef := (rfl)
theorem oneOf_two (v w : AV) (r : List AV) : oneOf (v :: w :: r) = .tup (v :: w :: r) := (rfl)
theorem freeAt_nil (env : List AV) (S : Sto) : freeAt env [] S = S := (rfl)

/-! ### Great fuels -/
def Big (Q : Nat → Prop) : Prop := ∃ n0, ∀ n, n0 ≤ n → Q n
theorem Big.of {Q : Nat → Prop} (h : ∀ n, Q n) : Big Q := ⟨0, fun n _ => h n⟩
theorem Big.mono {Q R : Nat → Prop} (h : Big Q) (hr : ∀ n, Q n → R n) : Big R := let ⟨n0, hq⟩ := h; ⟨n0, fun n hn => hr n (hq n hn)⟩
theorem Big.and {Q R : Nat → Prop} (h : Big Q) (h' : Big R) : Big fun n => Q n ∧ R n :=
  let ⟨n0, hq⟩ := h; let ⟨n1, hr⟩ := h'; ⟨max n0 n1, fun n hn => ⟨hq n (by omega), hr n (by omega)⟩⟩
theorem Big.ge (k : Nat) : Big fun n => k ≤ n := ⟨k, fun _ h => h⟩
theorem Big.succ {Q : Nat → Prop} (h : Big fun n => Q (n + 1)) : Big Q := by
  obtain ⟨n0, hq⟩ := h
  refine ⟨n0 + 1, fun n hn => ?_⟩
  obtain ⟨k, rfl⟩ : ∃ k, n = k + 1 := ⟨n - 1, by omega⟩
  exact hq k (by omega)
theorem Big.all {α : Type} {Q : α → Nat → Prop} : ∀ {l : List α}, (∀ x ∈ l, Big (Q x)) → Big fun n => ∀ x ∈ l, Q x n
  | [], _ => Big.of (fun _ _ h => by cases h)
  | a :: l, h => by
    refine ((h a (by simp)).and (Big.all (l := l) fun x hx => h x (by simp [hx]))).mono fun n ⟨h1, h2⟩ x hx => ?_
    rcases List.mem_cons.1 hx with rfl | hx
    · exact h1
    · exact h2 x hx

theorem call_func {n : Nat} {args : List AV} {S : Sto} (hf : pol.free f = false) : (handler P pol (n + 1)).call (.func f) args S = (runFn P (handler P pol n) n pol f .none args S).map fun r => (r.1, r.2.2) := by
  simp only [handler, hf, Bool.false_eq_true, if_false]
theorem call_yield {n id : Nat} {args : List AV} {S : Sto} : (handler P pol (n + 1)).call (.yield id) args S = runYield P (handler P pol n) n pol id args S := (rfl)
/-- A function's answer, for all great fuels. -/
theorem big_call {args : List AV} {e : AEnd} {S' : Sto → Sto} {p : AMode} (hf : pol.free f = false) (h : Big fun n => ∀ S, runFn P (handler P pol n) n pol f .none args S = some (e, p, S' S)) :
    Big fun n => ∀ S, (handler P pol n).call (.func f) args S = some (e, S' S) :=
  Big.succ (h.mono fun n hn S => by rw [call_func hf, hn S]; rfl)
/-- The same, on stores of a kind. -/
theorem big_call' {args : List AV} {e : AEnd} {R : Sto → Prop} {S' : Sto → Sto} {p : AMode} (hf : pol.free f = false) (h : Big fun n => ∀ S, R S → runFn P (handler P pol n) n pol f .none args S = some (e, p, S' S)) :
    Big fun n => ∀ S, R S → (handler P pol n).call (.func f) args S = some (e, S' S) :=
  Big.succ (h.mono fun n hn S hS => by rw [call_func hf, hn S hS]; rfl)

/-! ### Loops -/
/-- m rounds, then one that is looked at by itself. -/
theorem loop_run {keep : Option (List Bool)} {body : St → Option (AExit × St)} (E : Nat → St) : ∀ (m N : Nat) {st : St}, m < N → st.masked keep = E 0 →
    (∀ k, k < m → ∃ st', body (E k) = some (.normal, st') ∧ st'.masked keep = E (k + 1)) →
    loopN keep body N st = (match body (E m) with | some (.normal, st') => loopN keep body (N - m - 1) st' | r => r)
  | 0, N, st, hN, h0, _ => by
    obtain ⟨N', rfl⟩ : ∃ k, N = k + 1 := ⟨N - 1, by omega⟩
    show (match body (st.masked keep) with | some (.normal, st') => loopN keep body N' st' | r => r) = _
    rw [h0]
    rfl
  | m + 1, N, st, hN, h0, hs => by
    obtain ⟨N', rfl⟩ : ∃ k, N = k + 1 := ⟨N - 1, by omega⟩
    obtain ⟨st', h1, h2⟩ := hs 0 (by omega)
    have ih := loop_run (fun k => E (k + 1)) m N' (st := st') (by omega) h2 (fun k hk => hs (k + 1) (by omega))
    have hu : loopN keep body (N' + 1) st = loopN keep body N' st' := by
      show (match body (st.masked keep) with | some (.normal, st') => loopN keep body N' st' | r => r) = _
      rw [h0, h1]
    rw [hu, ih]
    have e : N' + 1 - (m + 1) - 1 = N' - m - 1 := by omega
    rw [e]
/-- The round that is looked at by itself leaves the loop. -/
theorem loop_end {keep : Option (List Bool)} {body : St → Option (AExit × St)} {N m : Nat} {st : St} {r : Option (AExit × St)} (E : Nat → St) (hN : m < N) (h0 : st.masked keep = E 0)
    (hs : ∀ k, k < m → ∃ st', body (E k) = some (.normal, st') ∧ st'.masked keep = E (k + 1)) (he : body (E m) = r) (hr : ∀ st', r ≠ some (.normal, st')) : loopN keep body N st = r := by
  rw [loop_run E m N hN h0 hs, he]
  cases r with
  | none => rfl
  | some xs =>
    obtain ⟨x, st'⟩ := xs
    cases x <;> first | rfl | exact absurd rfl (hr st')
/-- A round that goes on, to a state. -/
def stepOK (keep : Option (List Bool)) (r : Option (AExit × St)) (E : St) : Prop := match r with
  | some (.normal, st') => st'.masked keep = E
  | _ => False
@[congr] theorem stepOK_congr {keep : Option (List Bool)} {r r' : Option (AExit × St)} {E : St} (h : r = r') : stepOK keep r E = stepOK keep r' E := by rw [h]
theorem stepOK_normal {keep : Option (List Bool)} {st' E : St} : stepOK keep (some (.normal, st')) E = (st'.masked keep = E) := (rfl)
def contK (r : Option (AExit × St)) (k : St → Option (AExit × St)) : Option (AExit × St) := match r with | some (.normal, st') => k st' | r => r
@[congr] theorem contK_congr {r r' : Option (AExit × St)} {k : St → Option (AExit × St)} (h : r = r') : contK r k = contK r' k := by rw [h]
theorem contK_ret (st : St) (k : St → Option (AExit × St)) : contK (some (.ret, st)) k = some (.ret, st) := (rfl)
theorem contK_exit (i : Nat) (st : St) (k : St → Option (AExit × St)) : contK (some (.exit i, st)) k = some (.exit i, st) := (rfl)
theorem contK_goto (i : Nat) (st : St) (k : St → Option (AExit × St)) : contK (some (.goto i, st)) k = some (.goto i, st) := (rfl)
theorem contK_pan (ch : List APan) (st : St) (k : St → Option (AExit × St)) : contK (some (.pan ch, st)) k = some (.pan ch, st) := (rfl)
theorem loop_go {keep : Option (List Bool)} {body : St → Option (AExit × St)} (E : Nat → St) (m : Nat) {N : Nat} {st : St} (hN : m < N) (h0 : st.masked keep = E 0)
    (hs : ∀ k, k < m → stepOK keep (body (E k)) (E (k + 1))) : loopN keep body N st = contK (body (E m)) fun st' => loopN keep body (N - m - 1) st' := by
  refine loop_run E m N hN h0 fun k hk => ?_
  have := hs k hk
  unfold stepOK at this
  split at this
  · rename_i st' h; exact ⟨st', h, this⟩
  · exact this.elim
/-- Some variables of many. -/
def envOf : Nat → List (Nat × AV) → List AV
  | n, [] => List.replicate n .unk
  | n, (t, v) :: l => setT (envOf n l) t v
theorem envOf_nil (n : Nat) : envOf n [] = List.replicate n .unk := (rfl)
theorem envOf_cons (n t : Nat) (v : AV) (l : List (Nat × AV)) : envOf n ((t, v) :: l) = setT (envOf n l) t v := (rfl)
/-- A free function's call. -/
theorem call_free {n : Nat} {args : List AV} {S : Sto} {v : AV} {p : AMode} (hf : pol.free f = true) (ha : args ≠ []) (h : ∀ S, runFn P (handler P pol n) n pol f .none args S = some (.ret v, p, S)) :
    (handler P pol (n + 1)).call (.func f) args S = some (.ret v, S) := by
  simp only [handler]
  rw [if_pos hf]
  cases args with
  | nil => exact absurd rfl ha
  | cons a as => simp only [h]
theorem masked_some (st : St) (ks : List Bool) : st.masked (some ks) = { st with env := maskE ks st.env } := (rfl)
theorem maskE_t (ks : List Bool) (v : AV) (vs : List AV) : maskE (true :: ks) (v :: vs) = v :: maskE ks vs := (rfl)
theorem maskE_f (ks : List Bool) (v : AV) (vs : List AV) : maskE (false :: ks) (v :: vs) = .unk :: maskE ks vs := (rfl)
theorem maskE_nil (vs : List AV) : maskE [] vs = vs := by cases vs <;> rfl
theorem maskE_end (ks : List Bool) : maskE ks [] = [] := by cases ks with | nil => rfl | cons k ks => cases k <;> rfl

/-! ### Slices: none, or a list of rows -/
def sv {X : Type} (own : Bool) (es : Nat) (g : X → List AV) : Option (List X) → AV
  | none => .nilsl
  | some xs => .sl own es (xs.map g)
def ol {X : Type} (o : Option (List X)) : List X := o.getD []
theorem slA_sv {X : Type} (es : Nat) (g : X → List AV) (o : Option (List X)) : slA es g o = sv false es g o := by cases o <;> rfl
section sv
variable {X : Type} {own : Bool} {es : Nat} {g : X → List AV} {o : Option (List X)}
theorem sv_none : sv own es g none = .nilsl := (rfl)
theorem sv_some (xs : List X) : sv own es g (some xs) = .sl own es (xs.map g) := (rfl)
theorem strip_sv : (sv own es g o).strip = sv false es g o := by cases o <;> rfl
theorem strip0_sv : (sv own es g o).strip0 = sv false es g o := by cases o <;> rfl
theorem strip1_sv : (sv own es g o).strip1 = sv false es g o := by cases o <;> rfl
theorem clr_sv : (sv own es g o).clr = sv own es g o := by cases o <;> rfl
theorem noLp_sv : (sv own es g o).noLp = sv own es g o := by cases o <;> rfl
theorem okTop_sv : okTop (sv own es g o) = true := by cases o <;> rfl
theorem cells_sv : (sv own es g o).cells = [sv own es g o] := by cases o <;> rfl
theorem isAgg_sv : isAggV (sv own es g o) = false := by cases o <;> rfl
theorem adrOf_sv (t : Nat) : adrOf t (sv own es g o) = sv own es g o := by cases o <;> rfl
theorem lpAt_sv (s : Nat) : lpAt s (sv own es g o) = true := by cases o <;> rfl
theorem lenA_sv {S : Sto} {t e : TypeId} (ht : P.underlying t = some (.slice e)) : lenA P S t (sv own es g o) = some (.int .i64 (ol o).length) := by
  cases o <;> simp [lenA, ht, sv, ol]
theorem index_sv {t e : TypeId} (ht : P.underlying t = some (.slice e)) (he : P.cellsOf e = es) {i : Nat} (k : IntKind) {x : X} (hx : (ol o)[i]? = some x) : indexAddrA P t (sv own es g o) (.int k i) = some (.fptr (g x)) := by
  cases o with
  | none => simp [ol] at hx
  | some xs =>
    have hlt := (List.getElem?_eq_some_iff.1 hx).1
    have hx' : xs[i]? = some x := hx
    have hlt' : i < xs.length := hlt
    have h0 : (0 : Int) ≤ (i : Int) ∧ (i : Int) < ((List.map g xs).length : Int) ∧ es = P.cellsOf e := ⟨by omega, by simp; omega, he.symm⟩
    simp only [indexAddrA, ht, sv]
    rw [if_pos h0]
    simp [hx']
theorem eqnil_sv {t : TypeId} {lit : Bool} {e : TypeId} (ht : P.underlying t = some (.slice e)) : binA P .eql t lit (sv own es g o) .nilsl = some (.bool o.isNone) := by
  cases o <;> simp [binA, sv, eqA, ht, Op.maxDepth]
end sv
theorem bytes_of (bs : List UInt8) : bytesOf? (bs.map byteRow) = some bs := by
  induction bs with
  | nil => rfl
  | cons b bs ih =>
    simp only [List.map_cons, bytesOf?, byteRow, byteOf?, ih]
    simp

/-! ### append onto what is owned -/
theorem rowsOf_sv {X : Type} {own : Bool} {es : Nat} {g : X → List AV} {o : Option (List X)} : rowsOf es (sv own es g o) = some ((ol o).map g) := by
  cases o <;> simp [rowsOf, sv, ol]
theorem rowsOf_str (s : List UInt8) : rowsOf 1 (.str s) = some (s.map byteRow) := (rfl)
theorem rowsIn_sv {X : Type} {S : Sto} {own : Bool} {es : Nat} {g : X → List AV} {o : Option (List X)} : rowsIn S es (sv own es g o) = some ((ol o).map g) := by
  cases o <;> simp [rowsIn, rowsOf, sv, ol]
/-- What is appended: rows of a slice or of a string. -/
theorem more_slice {S : Sto} {e xt : TypeId} {d : TypeDesc} {v : AV} (h : P.underlying xt = some d) (hd : ∀ k, d ≠ .int k) : moreA P S e xt v = rowsIn S (P.cellsOf e) v := by
  unfold moreA
  rw [h]
  cases d <;> first | rfl | exact absurd rfl (hd _)
theorem appInline_own {e : TypeId} {rows more : List (List AV)} (hb : ¬ bigA P e (rows.length + more.length)) : appInline P e (.sl true (P.cellsOf e) rows) more = some (.sl true (P.cellsOf e) (rows ++ more)) := by
  cases more with
  | nil => simp [appInline]
  | cons m ms =>
    simp only [appInline]
    rw [if_neg]
    rintro (h | h | h)
    · exact h rfl
    · cases h
    · exact hb h
theorem app_own {how : Nat} {st xt e : TypeId} {es : Nat} {d : TypeDesc} {rows more : List (List AV)} {v : AV} {s : St} {z : AV} (h1 : P.underlying st = some (.slice e)) (h2 : P.underlying xt = some d) (hd : ∀ k, d ≠ .int k) (hz : zeroA P e = some z) (hzl : z.cells.length = es) (hes : P.cellsOf e = es)
    (hh : how = 1) (hm : rowsIn s.S es v = some more) (hb : ¬ bigA P e (rows.length + more.length)) : appendS P how st xt (.sl true es rows) v s = some (.val (.sl true es (rows ++ more)) s) := by
  subst hes hh
  unfold appendS
  simp only [h1, hz, if_pos hzl]
  rw [if_neg (show ¬ (1 = 0) by decide), more_slice h2 hd, hm]
  simp only [if_neg (show ¬ (1 = 2) by decide), appInline_own hb, Option.map_some]
theorem eql_sl_nil {t e : TypeId} {lit : Bool} {own : Bool} {es : Nat} {rows : List (List AV)} (ht : P.underlying t = some (.slice e)) : binA P .eql t lit (.sl own es rows) .nilsl = some (.bool false) := by simp [binA, eqA, ht, Op.maxDepth]
theorem eql_nil_nil {t e : TypeId} {lit : Bool} (ht : P.underlying t = some (.slice e)) : binA P .eql t lit .nilsl .nilsl = some (.bool true) := by simp [binA, eqA, ht, Op.maxDepth]

attribute [simp] rowsOf_sv rowsIn_sv rowsOf_str eql_sl_nil eql_nil_nil arrK
attribute [simp] stepOK_normal contK_ret contK_exit contK_goto contK_pan envOf_nil envOf_cons ifaceK finK_normal finK_ret finK_pan unwind_nil endK_ret endK_pan resultsA_nil frzA_no frzA_nil frzV_no frzV_agg frzV_rsl frzV_int frzV_nil frzCells_nil frzCells_cons frzA_int frzA_bool frzA_str frzA_sl resultsA_tmp resultsA_cell resK_ptr resK_lptr oneOf_one oneOf_nil oneOf_two freeAt_nil masked_some maskE_t maskE_f maskE_nil maskE_end
attribute [simp] strip_sv strip0_sv strip1_sv clr_sv noLp_sv okTop_sv cells_sv isAgg_sv adrOf_sv lpAt_sv lenA_sv eqnil_sv bytes_of
end Go.Ab
/- Drawn regions as rewriting. -/
namespace Go.Ab
variable {P : Program} {H : Handler} {pol : Pol} {f : FuncId} {N : Nat} {round : Option Nat}

theorem free_handler (pol : Pol) : ∀ n, (handler P pol n).free = pol.free
  | 0 => rfl
  | _ + 1 => rfl

/-- All that is asked of a drawn region, with the orders of the policy. -/
def drawFull (pol : Pol) (f : FuncId) (id : Nat) (ops : Array Oper) : Bool := match pol.orders f id with
  | l :: ws => drawAll pol.free pol f id ops l ws
  | [] => false

def nbK {α : Type} (v : AV) (x : Option α) : Option α := match v with | .box _ => none | _ => x
@[congr] theorem nbK_congr {α : Type} {v v' : AV} {x : Option α} (h : v = v') : nbK v x = nbK v' x := by rw [h]
def sK {α : Type} (ok : Bool) (S S' : Sto) (x : Option α) : Option α := if ok || sameOld S S' then x else none
@[congr] theorem sK_congr {α : Type} {ok ok' : Bool} {S S' : Sto} {x : Option α} (h : ok = ok') : sK ok S S' x = sK ok' S S' x := by rw [h]
theorem sK_true {α : Type} (S S' : Sto) (x : Option α) : sK true S S' x = x := (rfl)
theorem sK_same {α : Type} {S S' : Sto} (h : sameOld S S' = true) (x : Option α) : sK false S S' x = x := by simp [sK, h]
/-- The look at the variables that must be as they were. -/
def fK {α : Type} (q : Option (List Nat)) (env : List AV) (S S' : Sto) (x : Option α) : Option α := match q with
  | none => x
  | some fx => bif sameFix env fx S S' then x else none
@[congr] theorem fK_congr {α : Type} {q q' : Option (List Nat)} {env : List AV} {S S' : Sto} {x : Option α} (h : q = q') : fK q env S S' x = fK q' env S S' x := by rw [h]
theorem fK_none {α : Type} (env : List AV) (S S' : Sto) (x : Option α) : fK none env S S' x = x := (rfl)
theorem fK_same {α : Type} {fx : List Nat} {env : List AV} {S S' : Sto} (h : sameFix env fx S S' = true) (x : Option α) : fK (some fx) env S S' x = x := by simp [fK, h]
def cKD (ok : Bool) (q : Option (List Nat)) (r : Option (AEnd × Sto)) (st : St) (k : AV → St → Option (AExit × St)) : Option (AExit × St) := match r with
  | none => none
  | some (.ret v, S') => nbK v (sK ok st.S S' (fK q st.env st.S S' (k v { st with S := S' })))
  | some (.pan ch, S') => some (.pan ch, { st with S := S' })
@[congr] theorem cKD_congr {ok ok' : Bool} {q q' : Option (List Nat)} {r r' : Option (AEnd × Sto)} {st : St} {k : AV → St → Option (AExit × St)} (ho : ok = ok') (hq : q = q') (h : r = r') : cKD ok q r st k = cKD ok' q' r' st k := by rw [h, ho, hq]
theorem cKD_ret (ok : Bool) (q : Option (List Nat)) (v : AV) (S' : Sto) (st : St) (k : AV → St → Option (AExit × St)) : cKD ok q (some (.ret v, S')) st k = nbK v (sK ok st.S S' (fK q st.env st.S S' (k v { st with S := S' }))) := (rfl)
theorem cKD_pan (ok : Bool) (q : Option (List Nat)) (ch : List APan) (S' : Sto) (st : St) (k : AV → St → Option (AExit × St)) : cKD ok q (some (.pan ch, S')) st k = some (.pan ch, { st with S := S' }) := (rfl)
def rKD (H : Handler) (ok : Bool) (q : Option (List Nat)) (r : OR) (k : AV → St → Option (AExit × St)) : Option (AExit × St) := match r with
  | .val v st' => nbK v (k v st')
  | .pan ch st' => some (.pan ch, st')
  | .call t as st' => cKD ok q (H.call t as st'.S) st' k
@[congr] theorem rKD_congr {ok : Bool} {q : Option (List Nat)} {r r' : OR} {k : AV → St → Option (AExit × St)} (h : r = r') : rKD H ok q r k = rKD H ok q r' k := by rw [h]
theorem rKD_val (ok : Bool) (q : Option (List Nat)) (v : AV) (st : St) (k : AV → St → Option (AExit × St)) : rKD H ok q (.val v st) k = nbK v (k v st) := (rfl)
theorem rKD_pan (ok : Bool) (q : Option (List Nat)) (ch : List APan) (st : St) (k : AV → St → Option (AExit × St)) : rKD H ok q (.pan ch st) k = some (.pan ch, st) := (rfl)
theorem rKD_call (ok : Bool) (q : Option (List Nat)) (t : Tgt) (as : List AV) (st : St) (k : AV → St → Option (AExit × St)) : rKD H ok q (.call t as st) k = cKD ok q (H.call t as st.S) st k := (rfl)
/-- Need the call not be looked at? -/
def okD (free : FuncId → Bool) (need : List Nat) (i : Nat) (o : Oper) : Bool := bif need.contains i then freeCall free o else true
/-- The slots whose variables the call must leave alone. -/
def fixD (free : FuncId → Bool) (nf : List Nat × List Nat) (i : Nat) (o : Oper) : Option (List Nat) := bif nf.1.contains i then (bif freeCall free o then none else some nf.2) else none
theorem fixD_nil {free : FuncId → Bool} {fx : List Nat} {i : Nat} {o : Oper} : fixD free ([], fx) i o = none := (rfl)
theorem fixD_no {free : FuncId → Bool} {l fx : List Nat} {i : Nat} {o : Oper} (h : l.contains i = false) : fixD free (l, fx) i o = none := by unfold fixD; rw [h]; rfl
theorem fixD_yes {free : FuncId → Bool} {l fx : List Nat} {i : Nat} {o : Oper} (h : l.contains i = true) : fixD free (l, fx) i o = bif freeCall free o then none else some fx := by unfold fixD; rw [h]; rfl

def evLD (P : Program) (H : Handler) (pol : Pol) (f : FuncId) (all : List Oper) (need : List Nat) (nf : List Nat × List Nat) (pl : List Tmp) : List Nat → St → Option (AExit × St)
  | [], st => some (.normal, { st with env := wipe st.env pl })
  | i :: rest, st => oB (opAt all i) fun o => wantedL all o st.env
      (oB (opA P pol f pl o st) fun r => rKD H (okD H.free need i o) (fixD H.free nf i o) r fun v st' => evLD P H pol f all need nf pl rest (st'.puts o.dst (leftA o v)))
      (evLD P H pol f all need nf pl rest (st.puts o.dst .undef))
theorem evLD_nil {all : List Oper} {need nf pl} (st : St) : evLD P H pol f all need nf pl [] st = some (.normal, { st with env := wipe st.env pl }) := (rfl)
theorem evLD_cons {all : List Oper} {need : List Nat} {nf : List Nat × List Nat} {pl : List Tmp} (i : Nat) (rest : List Nat) (st : St) : evLD P H pol f all need nf pl (i :: rest) st = oB (opAt all i) fun o => wantedL all o st.env
      (oB (opA P pol f pl o st) fun r => rKD H (okD H.free need i o) (fixD H.free nf i o) r fun v st' => evLD P H pol f all need nf pl rest (st'.puts o.dst (leftA o v)))
      (evLD P H pol f all need nf pl rest (st.puts o.dst .undef)) := (rfl)
theorem evOpsD_evLD {ops : Array Oper} {need : Need} {pl : List Tmp} : ∀ (l : List Nat) (st : St), evOpsD P H pol f ops need pl l st = evLD P H pol f ops.toList need.strict (need.fix, need.fx) pl l st
  | [], st => rfl
  | i :: l, st => by
    have ih := evOpsD_evLD (ops := ops) (need := need) (pl := pl) l
    rw [evLD_cons]
    show (match evOne P H pol f ops need pl i st with
      | some (.normal, st') => evOpsD P H pol f ops need pl l st'
      | r => r) = _
    unfold evOne
    rw [← opAt_eq, Array.getElem?_toList]
    cases ops[i]? with
    | none => rfl
    | some o =>
      rw [oB_some, ← wantedL_eq]
      simp only [opK_eq]
      unfold wantedK
      cases wantedA ops o st.env with
      | none => rfl
      | some w =>
        cases w with
        | false => exact ih _
        | true =>
          simp only
          cases opA P pol f pl o st with
          | none => rfl
          | some r =>
            rw [oB_some]
            cases r with
            | val v st' =>
              simp only [rKD]
              cases v <;> simp only [notBox, nbK, if_true] <;> first | exact ih _ | rfl
            | pan ch st' => rfl
            | call t as st' =>
              simp only [rKD]
              cases H.call t as st'.S with
              | none => rfl
              | some eS =>
                obtain ⟨e, S'⟩ := eS
                cases e with
                | pan ch => rfl
                | ret v =>
                  simp only [cKD]
                  have hok : (!need.strict.contains i || freeCall H.free o || sameOld st'.S S') = (okD H.free need.strict i o || sameOld st'.S S') := by
                    unfold okD
                    cases need.strict.contains i <;> rfl
                  rw [hok]
                  have hfx : ∀ x : Option (AExit × St), fK (fixD H.free (need.fix, need.fx) i o) st'.env st'.S S' x = if (!need.fix.contains i || freeCall H.free o || sameFix st'.env need.fx st'.S S') = true then x else none := by
                    intro x
                    unfold fixD
                    cases need.fix.contains i <;> cases freeCall H.free o <;> simp [fK]
                  rw [hfx]
                  unfold sK
                  cases hc : (okD H.free need.strict i o || sameOld st'.S S') <;> cases hc2 : (!need.fix.contains i || freeCall H.free o || sameFix st'.env need.fx st'.S S')
                  · cases v <;> rfl
                  · cases v <;> rfl
                  · cases v <;> rfl
                  · cases v <;> simp only [notBox, nbK, Bool.and_true, Bool.and_self, if_true] <;> first | exact ih _ | rfl
def dK (pol : Pol) (f : FuncId) (ops : Array Oper) (r : Option (AExit × St)) : Option (AExit × St) := match r with
  | some (.pan ch, st') => some (.pan ch, { st' with env := maskD pol f ops st'.env })
  | r => r
@[congr] theorem dK_congr {ops : Array Oper} {r r' : Option (AExit × St)} (h : r = r') : dK pol f ops r = dK pol f ops r' := by rw [h]
theorem dK_normal {ops : Array Oper} (st : St) : dK pol f ops (some (.normal, st)) = some (.normal, st) := (rfl)
theorem dK_pan {ops : Array Oper} (ch : List APan) (st : St) : dK pol f ops (some (.pan ch, st)) = some (.pan ch, { st with env := maskD pol f ops st.env }) := (rfl)
def bxK {α : Type} (b : Bool) (x : Option α) : Option α := bif b then x else none
@[congr] theorem bxK_congr {α : Type} {b b' : Bool} {x : Option α} (h : b = b') : bxK b x = bxK b' x := by rw [h]
theorem bxK_true {α : Type} (x : Option α) : bxK true x = x := (rfl)
/-- No box among some slots. -/
def nbAt (env : List AV) : List Tmp → Bool
  | [] => true
  | t :: ts => nb1 (getT env t) (nbAt env ts)
  where nb1 (v : AV) (b : Bool) : Bool := match v with | .box _ => false | _ => b
theorem nbAt_nil (env : List AV) : nbAt env [] = true := (rfl)
theorem nbAt_cons (env : List AV) (t : Tmp) (ts : List Tmp) : nbAt env (t :: ts) = nbAt.nb1 (getT env t) (nbAt env ts) := (rfl)
theorem nbAt_eq (env : List AV) : ∀ ts, noBoxAt env ts = nbAt env ts
  | [] => rfl
  | t :: ts => by
    rw [nbAt_cons, ← nbAt_eq env ts, ← getT_eq]
    show ((match env.getD t .undef with | .box _ => false | _ => true) && noBoxAt env ts) = _
    cases env.getD t .undef <;> simp [nbAt.nb1]
theorem evDraw_go {n id : Nat} {l : List Oper} {st : St} (h : drawFull pol f id l.toArray = true) :
    evDraw P (handler P pol n) pol f id l.toArray st = bxK (nbAt st.env (pol.wr f id)) (dK pol f l.toArray (evLD P (handler P pol n) pol f l (pol.need f id) (pol.needF f id) (plL l) ((pol.orders f id).headD []) st)) := by
  unfold drawFull at h
  unfold evDraw
  rw [free_handler]
  cases ho : pol.orders f id with
  | nil => rw [ho] at h; cases h
  | cons o ws =>
    rw [ho] at h
    simp only at h ⊢
    rw [h, Bool.true_and, nbAt_eq, evOpsD_evLD, plL_eq]
    cases nbAt st.env (pol.wr f id) <;> rfl

theorem nbK_unk {α : Type} (x : Option α) : nbK .unk x = x := (rfl)
theorem nbK_bool {α : Type} (b : Bool) (x : Option α) : nbK (.bool b) x = x := (rfl)
theorem nbK_int {α : Type} (k : IntKind) (n : Int) (x : Option α) : nbK (.int k n) x = x := (rfl)
theorem nbK_str {α : Type} (s : List UInt8) (x : Option α) : nbK (.str s) x = x := (rfl)
theorem nbK_nilptr {α : Type} (x : Option α) : nbK .nilptr x = x := (rfl)
theorem nbK_ptr {α : Type} (i o : Nat) (x : Option α) : nbK (.ptr i o) x = x := (rfl)
theorem nbK_fptr {α : Type} (cs : List AV) (x : Option α) : nbK (.fptr cs) x = x := (rfl)
theorem nbK_lptr {α : Type} (s o : Nat) (x : Option α) : nbK (.lptr s o) x = x := (rfl)
theorem nbK_nilsl {α : Type} (x : Option α) : nbK .nilsl x = x := (rfl)
theorem nbK_sl {α : Type} (w : Bool) (es : Nat) (rs : List (List AV)) (x : Option α) : nbK (.sl w es rs) x = x := (rfl)
theorem nbK_rsl {α : Type} (a b c d : Nat) (x : Option α) : nbK (.rsl a b c d) x = x := (rfl)
theorem nbK_aptr {α : Type} (a b c : Nat) (x : Option α) : nbK (.aptr a b c) x = x := (rfl)
theorem nbK_nilmap {α : Type} (x : Option α) : nbK .nilmap x = x := (rfl)
theorem nbK_map {α : Type} (i : Nat) (x : Option α) : nbK (.map i) x = x := (rfl)
theorem nbK_nilfn {α : Type} (x : Option α) : nbK .nilfn x = x := (rfl)
theorem nbK_fn {α : Type} (g : Fn) (a b : List AV) (x : Option α) : nbK (.fn g a b) x = x := (rfl)
theorem nbK_yld {α : Type} (i : Nat) (x : Option α) : nbK (.yld i) x = x := (rfl)
theorem nbK_niliface {α : Type} (x : Option α) : nbK .niliface x = x := (rfl)
theorem nbK_iface {α : Type} (t : TypeId) (v : AV) (x : Option α) : nbK (.iface t v) x = x := (rfl)
theorem nbK_agg {α : Type} (cs : List AV) (x : Option α) : nbK (.agg cs) x = x := (rfl)
theorem nbK_tup {α : Type} (vs : List AV) (x : Option α) : nbK (.tup vs) x = x := (rfl)
theorem nbK_undef {α : Type} (x : Option α) : nbK .undef x = x := (rfl)
theorem nbK_sv {α X : Type} (own : Bool) (es : Nat) (g : X → List AV) (o : Option (List X)) (x : Option α) : nbK (sv own es g o) x = x := by cases o <;> rfl
theorem nb1_unk (b : Bool) : nbAt.nb1 .unk b = b := (rfl)
theorem nb1_bool (c : Bool) (b : Bool) : nbAt.nb1 (.bool c) b = b := (rfl)
theorem nb1_int (k : IntKind) (n : Int) (b : Bool) : nbAt.nb1 (.int k n) b = b := (rfl)
theorem nb1_str (s : List UInt8) (b : Bool) : nbAt.nb1 (.str s) b = b := (rfl)
theorem nb1_nilptr (b : Bool) : nbAt.nb1 .nilptr b = b := (rfl)
theorem nb1_ptr (i o : Nat) (b : Bool) : nbAt.nb1 (.ptr i o) b = b := (rfl)
theorem nb1_fptr (cs : List AV) (b : Bool) : nbAt.nb1 (.fptr cs) b = b := (rfl)
theorem nb1_lptr (s o : Nat) (b : Bool) : nbAt.nb1 (.lptr s o) b = b := (rfl)
theorem nb1_nilsl (b : Bool) : nbAt.nb1 .nilsl b = b := (rfl)
theorem nb1_sl (w : Bool) (es : Nat) (rs : List (List AV)) (b : Bool) : nbAt.nb1 (.sl w es rs) b = b := (rfl)
theorem nb1_rsl (x y c d : Nat) (b : Bool) : nbAt.nb1 (.rsl x y c d) b = b := (rfl)
theorem nb1_aptr (x y c : Nat) (b : Bool) : nbAt.nb1 (.aptr x y c) b = b := (rfl)
theorem nb1_nilmap (b : Bool) : nbAt.nb1 .nilmap b = b := (rfl)
theorem nb1_map (i : Nat) (b : Bool) : nbAt.nb1 (.map i) b = b := (rfl)
theorem nb1_nilfn (b : Bool) : nbAt.nb1 .nilfn b = b := (rfl)
theorem nb1_fn (g : Fn) (x y : List AV) (b : Bool) : nbAt.nb1 (.fn g x y) b = b := (rfl)
theorem nb1_yld (i : Nat) (b : Bool) : nbAt.nb1 (.yld i) b = b := (rfl)
theorem nb1_niliface (b : Bool) : nbAt.nb1 .niliface b = b := (rfl)
theorem nb1_iface (t : TypeId) (v : AV) (b : Bool) : nbAt.nb1 (.iface t v) b = b := (rfl)
theorem nb1_agg (cs : List AV) (b : Bool) : nbAt.nb1 (.agg cs) b = b := (rfl)
theorem nb1_tup (vs : List AV) (b : Bool) : nbAt.nb1 (.tup vs) b = b := (rfl)
theorem nb1_undef (b : Bool) : nbAt.nb1 .undef b = b := (rfl)
theorem nb1_sv {X : Type} (own : Bool) (es : Nat) (g : X → List AV) (o : Option (List X)) (b : Bool) : nbAt.nb1 (sv own es g o) b = b := by cases o <;> rfl
theorem okD_no {free : FuncId → Bool} {need : List Nat} {i : Nat} {o : Oper} (h : need.contains i = false) : okD free need i o = true := by unfold okD; rw [h]; rfl
theorem okD_yes {free : FuncId → Bool} {need : List Nat} {i : Nat} {o : Oper} (h : need.contains i = true) : okD free need i o = freeCall free o := by unfold okD; rw [h]; rfl
theorem freeCall_call {free : FuncId → Bool} {d : Option Tmp} {g : FuncId} {args : Array Operand} {ts : Array TypeId} {ty : TypeId} {po : String} {af : Array Edge} {gd : Option (Nat × Bool)} :
    freeCall free ⟨d, .call { callee := .value (.func g), args := args, argTypes := ts }, ty, po, af, gd⟩ = free g := rfl

attribute [simp] fK_none fixD_nil sK_true cKD_ret cKD_pan rKD_val rKD_pan rKD_call evLD_nil evLD_cons dK_normal dK_pan bxK_true nbAt_nil nbAt_cons free_handler freeCall_call
attribute [simp] nbK_unk nbK_bool nbK_int nbK_str nbK_nilptr nbK_ptr nbK_fptr nbK_lptr nbK_nilsl nbK_sl nbK_rsl nbK_aptr nbK_nilmap nbK_map nbK_nilfn nbK_fn nbK_yld nbK_niliface nbK_iface nbK_agg nbK_tup nbK_undef nbK_sv
attribute [simp] nb1_unk nb1_bool nb1_int nb1_str nb1_nilptr nb1_ptr nb1_fptr nb1_lptr nb1_nilsl nb1_sl nb1_rsl nb1_aptr nb1_nilmap nb1_map nb1_nilfn nb1_fn nb1_yld nb1_niliface nb1_iface nb1_agg nb1_tup nb1_undef nb1_sv
attribute [simp] ev_draw
end Go.Ab
/- The store, seen through what is read of it. -/
namespace Go.Ab

theorem look_putIn_self {id : Nat} {o o' : Obj} : ∀ {h : List (Nat × Obj)}, Sto.look id h = some o' → Sto.look id (Sto.putIn id o h) = some o
  | [], h => by cases h
  | (i, x) :: r, h => by
    by_cases e : i = id
    · simp [Sto.putIn, Sto.look, e]
    · have : Sto.look id r = some o' := by simpa [Sto.look, e] using h
      simp [Sto.putIn, Sto.look, e, look_putIn_self this]
theorem look_putIn_ne {id id' : Nat} {o : Obj} (hne : id ≠ id') : ∀ {h : List (Nat × Obj)}, Sto.look id (Sto.putIn id' o h) = Sto.look id h
  | [] => rfl
  | (i, x) :: r => by
    by_cases e : i = id'
    · subst e
      simp [Sto.putIn, Sto.look, Ne.symm hne]
    · simp only [Sto.putIn, if_neg e, Sto.look, look_putIn_ne hne]
theorem putIn_putIn {id : Nat} {o o' : Obj} : ∀ {h : List (Nat × Obj)}, Sto.putIn id o (Sto.putIn id o' h) = Sto.putIn id o h
  | [] => rfl
  | (i, x) :: r => by
    by_cases e : i = id
    · simp [Sto.putIn, e]
    · simp [Sto.putIn, e, putIn_putIn]
theorem putIn_look {id : Nat} {o : Obj} : ∀ {h : List (Nat × Obj)}, Sto.look id h = some o → Sto.putIn id o h = h
  | [], h => by cases h
  | (i, x) :: r, h => by
    by_cases e : i = id
    · subst e
      simp [Sto.look] at h
      simp [Sto.putIn, h]
    · have : Sto.look id r = some o := by simpa [Sto.look, e] using h
      simp [Sto.putIn, e, putIn_look this]
theorem putIn_none {id : Nat} {o : Obj} : ∀ {h : List (Nat × Obj)}, Sto.look id h = none → Sto.putIn id o h = h
  | [], _ => rfl
  | (i, x) :: r, h => by
    by_cases e : i = id
    · simp [Sto.look, e] at h
    · have : Sto.look id r = none := by simpa [Sto.look, e] using h
      simp [Sto.putIn, e, putIn_none this]

theorem get_put_self {S : Sto} {id : Nat} {o o' : Obj} (h : S.get id = some o') : (S.put id o).get id = some o := look_putIn_self h
theorem get_put_ne {S : Sto} {id id' : Nat} {o : Obj} (h : id ≠ id') : (S.put id' o).get id = S.get id := look_putIn_ne h
theorem put_put (S : Sto) (id : Nat) (o o' : Obj) : (S.put id o').put id o = S.put id o := by simp [Sto.put, putIn_putIn]
theorem put_self {S : Sto} {id : Nat} {o : Obj} (h : S.get id = some o) : S.put id o = S := by
  have : Sto.putIn id o S.heap = S.heap := putIn_look h
  simp [Sto.put, this]
theorem get_new_self (S : Sto) (o : Obj) : (S.new o).get S.next = some o := by simp [Sto.new, Sto.get, Sto.look]
theorem get_new_ne {S : Sto} {o : Obj} {id : Nat} (h : id ≠ S.next) : (S.new o).get id = S.get id := by simp [Sto.new, Sto.get, Sto.look, Ne.symm h]
theorem next_new (S : Sto) (o : Obj) : (S.new o).next = S.next + 1 := (rfl)
theorem next_put (S : Sto) (id : Nat) (o : Obj) : (S.put id o).next = S.next := (rfl)

/-! ### Stores whose objects are told apart, and the same as themselves -/
def goodO : Obj → Bool
  | .cells cs => sameL cs cs
  | .arr _ rows => sameR rows rows
  | _ => true
structure SOK (S : Sto) : Prop where
  lt : ∀ p ∈ S.heap, p.1 < S.next
  nd : (S.heap.map (·.1)).Nodup
  ok : ∀ p ∈ S.heap, goodO p.2 = true
theorem look_mem : ∀ {h : List (Nat × Obj)} {p : Nat × Obj}, (h.map (·.1)).Nodup → p ∈ h → Sto.look p.1 h = some p.2
  | [], p, _, hp => by cases hp
  | (i, o) :: r, p, hn, hp => by
    simp only [List.map_cons, List.nodup_cons] at hn
    rcases List.mem_cons.1 hp with rfl | hp
    · simp [Sto.look]
    · have hne : ¬ i = p.1 := fun e => hn.1 (e ▸ List.mem_map_of_mem hp)
      simp only [Sto.look, if_neg hne]
      exact look_mem hn.2 hp
theorem putIn_ids (id : Nat) (o : Obj) : ∀ h : List (Nat × Obj), (Sto.putIn id o h).map (·.1) = h.map (·.1)
  | [] => rfl
  | (i, x) :: r => by
    by_cases e : i = id
    · simp [Sto.putIn, e]
    · simp only [Sto.putIn, if_neg e, List.map_cons, putIn_ids id o r]
theorem putIn_mem {id : Nat} {o : Obj} : ∀ {h : List (Nat × Obj)} {p : Nat × Obj}, p ∈ Sto.putIn id o h → p ∈ h ∨ p.2 = o
  | [], p, hp => by cases hp
  | (i, x) :: r, p, hp => by
    by_cases e : i = id
    · simp only [Sto.putIn, if_pos e] at hp
      rcases List.mem_cons.1 hp with rfl | hp
      · exact .inr rfl
      · exact .inl (List.mem_cons_of_mem _ hp)
    · simp only [Sto.putIn, if_neg e] at hp
      rcases List.mem_cons.1 hp with rfl | hp
      · exact .inl (List.mem_cons_self ..)
      · exact (putIn_mem hp).imp (List.mem_cons_of_mem _) (fun e => e)
theorem dropIn_sub (id : Nat) : ∀ h : List (Nat × Obj), (Sto.dropIn id h).Sublist h
  | [] => List.Sublist.slnil
  | (i, x) :: r => by
    by_cases e : i = id
    · simp only [Sto.dropIn, if_pos e]; exact List.sublist_cons_self _ _
    · simp only [Sto.dropIn, if_neg e]; exact (dropIn_sub id r).cons_cons _
theorem SOK.nil (n : Nat) : SOK { heap := [], next := n } := ⟨by simp, by simp, by simp⟩
theorem SOK.new {S : Sto} {o : Obj} (h : SOK S) (ho : goodO o = true) : SOK (S.new o) := by
  refine ⟨fun p hp => ?_, ?_, fun p hp => ?_⟩
  · rcases List.mem_cons.1 hp with rfl | hp
    · exact Nat.lt_succ_self _
    · exact Nat.lt_succ_of_lt (h.lt p hp)
  · show (S.next :: S.heap.map (·.1)).Nodup
    refine List.nodup_cons.2 ⟨fun hm => ?_, h.nd⟩
    obtain ⟨p, hp, e⟩ := List.mem_map.1 hm
    have := h.lt p hp
    omega
  · rcases List.mem_cons.1 hp with rfl | hp
    · exact ho
    · exact h.ok p hp
theorem SOK.put {S : Sto} {id : Nat} {o : Obj} (h : SOK S) (ho : goodO o = true) : SOK (S.put id o) := by
  refine ⟨fun p hp => ?_, ?_, fun p hp => ?_⟩
  · have hm : p.1 ∈ (Sto.putIn id o S.heap).map (·.1) := List.mem_map_of_mem hp
    rw [putIn_ids] at hm
    obtain ⟨q, hq, e⟩ := List.mem_map.1 hm
    rw [← e]; exact h.lt q hq
  · show ((Sto.putIn id o S.heap).map (·.1)).Nodup
    rw [putIn_ids]; exact h.nd
  · rcases putIn_mem hp with hp | e
    · exact h.ok p hp
    · rw [e]; exact ho
theorem SOK.drop {S : Sto} (id : Nat) (h : SOK S) : SOK (S.drop id) :=
  ⟨fun p hp => h.lt p ((dropIn_sub id S.heap).subset hp), h.nd.sublist ((dropIn_sub id S.heap).map _), fun p hp => h.ok p ((dropIn_sub id S.heap).subset hp)⟩
theorem look_dropIn_ne {id id' : Nat} (hne : id ≠ id') : ∀ {h : List (Nat × Obj)}, Sto.look id (Sto.dropIn id' h) = Sto.look id h
  | [] => rfl
  | (i, x) :: r => by
    by_cases e : i = id'
    · subst e
      simp [Sto.dropIn, Sto.look, Ne.symm hne]
    · simp only [Sto.dropIn, if_neg e, Sto.look, look_dropIn_ne hne]
theorem get_drop_ne {S : Sto} {id id' : Nat} (h : id ≠ id') : (S.drop id').get id = S.get id := look_dropIn_ne h
theorem next_drop (S : Sto) (id : Nat) : (S.drop id).next = S.next := rfl

/-- What was in the store is as it was; but for some that is given. -/
structure Grew (x : List Nat) (S S' : Sto) : Prop where
  get : ∀ id, id < S.next → id ∉ x → S'.get id = S.get id
  next : S.next ≤ S'.next
  sok : SOK S → SOK S'
theorem Grew.refl (x : List Nat) (S : Sto) : Grew x S S := ⟨fun _ _ _ => rfl, Nat.le_refl _, id⟩
theorem Grew.trans {x : List Nat} {S S' S'' : Sto} (h : Grew x S S') (h' : Grew x S' S'') : Grew x S S'' :=
  ⟨fun id hi hx => (h'.get id (Nat.lt_of_lt_of_le hi h.next) hx).trans (h.get id hi hx), Nat.le_trans h.next h'.next, fun hk => h'.sok (h.sok hk)⟩
theorem Grew.new (x : List Nat) (S : Sto) (o : Obj) (ho : goodO o = true) : Grew x S (S.new o) := ⟨fun _ hi _ => get_new_ne (by omega), by simp [next_new], fun hk => hk.new ho⟩
theorem Grew.put {x : List Nat} (S : Sto) {id : Nat} (o : Obj) (h : id ∈ x ∨ S.next ≤ id) (ho : goodO o = true) : Grew x S (S.put id o) :=
  ⟨fun i hi hx => get_put_ne (h.elim (fun h e => hx (e ▸ h)) (fun h => by omega)), Nat.le_refl _, fun hk => hk.put ho⟩
theorem Grew.drop {x : List Nat} (S : Sto) {id : Nat} (h : id ∈ x ∨ S.next ≤ id) : Grew x S (S.drop id) :=
  ⟨fun i hi hx => get_drop_ne (h.elim (fun h e => hx (e ▸ h)) (fun h => by omega)), Nat.le_refl _, fun hk => hk.drop id⟩
theorem Grew.mono {x y : List Nat} {S S' : Sto} (h : Grew x S S') (hx : ∀ a ∈ x, a ∈ y ∨ S.next ≤ a) : Grew y S S' :=
  ⟨fun id hi hy => h.get id hi (fun e => (hx id e).elim hy (fun h => by omega)), h.next, h.sok⟩
theorem Grew.mono' {x y : List Nat} {S S' : Sto} (h : Grew x S S') (hx : ∀ a ∈ x, a ∈ y) : Grew y S S' := h.mono fun a ha => .inl (hx a ha)
/-- Into one that is behind the store's start. -/
theorem Grew.late {x : List Nat} {S0 S S' : Sto} {id : Nat} (h0 : Grew x S0 S) (h : Grew (id :: x) S S') (hid : S0.next ≤ id) : Grew x S0 S' :=
  ⟨fun i hi hx => (h.get i (Nat.lt_of_lt_of_le hi h0.next) (by simp only [List.mem_cons, not_or]; exact ⟨by omega, hx⟩)).trans (h0.get i hi hx), Nat.le_trans h0.next h.next, fun hk => h.sok (h0.sok hk)⟩
/-- Changes behind a start. -/
theorem Grew.behind {S0 S S' : Sto} {x : List Nat} (h0 : Grew [] S0 S) (h : Grew x S S') (hx : ∀ a ∈ x, S0.next ≤ a) : Grew [] S0 S' :=
  ⟨fun i hi _ => (h.get i (Nat.lt_of_lt_of_le hi h0.next) (fun hm => by have := hx i hm; omega)).trans (h0.get i hi (by simp)), Nat.le_trans h0.next h.next, fun hk => h.sok (h0.sok hk)⟩
theorem same_grew {S S' : Sto} (hk : SOK S) (h : Grew [] S S') : sameOld S S' = true := by
  unfold sameOld
  rw [List.all_eq_true]
  intro p hp
  obtain ⟨i, o⟩ := p
  have hg : S'.get i = some o := (h.get i (hk.lt _ hp) (by simp)).trans (look_mem hk.nd hp)
  have ho := hk.ok _ hp
  cases o <;> simp only [goodO] at ho ⊢ <;> simp [hg, ho]
theorem sK_grew {α : Type} {S S' : Sto} (hk : SOK S) (h : Grew [] S S') (x : Option α) : sK false S S' x = x := sK_same (same_grew hk h) x
theorem sK_self {α : Type} {S : Sto} (hk : SOK S) (x : Option α) : sK false S S x = x := sK_grew hk (Grew.refl _ _) x
theorem sameL_nil : sameL [] [] = true := by simp [sameL]
theorem sameL_cons (a b : AV) (as bs : List AV) : sameL (a :: as) (b :: bs) = (AV.same a b && sameL as bs) := by simp [sameL]
theorem same_unk : AV.same .unk .unk = true := by simp [AV.same]
theorem same_bool (b : Bool) : AV.same (.bool b) (.bool b) = true := by simp [AV.same]
theorem same_int (k : IntKind) (a : Int) : AV.same (.int k a) (.int k a) = true := by simp [AV.same]
theorem same_str (s : List UInt8) : AV.same (.str s) (.str s) = true := by simp [AV.same]
theorem same_ptr (a b : Nat) : AV.same (.ptr a b) (.ptr a b) = true := by simp [AV.same]
theorem same_nilptr : AV.same .nilptr .nilptr = true := by simp [AV.same]
theorem same_nilsl : AV.same .nilsl .nilsl = true := by simp [AV.same]
theorem same_niliface : AV.same .niliface .niliface = true := by simp [AV.same]
theorem same_nilfn : AV.same .nilfn .nilfn = true := by simp [AV.same]
theorem same_rsl (a b c d : Nat) : AV.same (.rsl a b c d) (.rsl a b c d) = true := by simp [AV.same]
theorem sameR_map {X : Type} {g : X → List AV} (h : ∀ x, sameL (g x) (g x) = true) : ∀ l : List X, sameR (l.map g) (l.map g) = true
  | [] => by simp [sameR]
  | x :: l => by simp only [List.map_cons, sameR, h x, sameR_map h l, Bool.and_self]
theorem same_sl {X : Type} {g : X → List AV} (o : Bool) (e : Nat) (h : ∀ x, sameL (g x) (g x) = true) (l : List X) : AV.same (.sl o e (l.map g)) (.sl o e (l.map g)) = true := by
  simp [AV.same, sameR_map h l]
theorem same_sv {X : Type} {g : X → List AV} (o : Bool) (e : Nat) (h : ∀ x, sameL (g x) (g x) = true) (l : Option (List X)) : AV.same (sv o e g l) (sv o e g l) = true := by
  cases l with
  | none => exact same_nilsl
  | some l => exact same_sl o e h l
theorem good_cells (cs : List AV) : goodO (.cells cs) = sameL cs cs := (rfl)
theorem good_arr (e : Nat) (rows : List (List AV)) : goodO (.arr e rows) = sameR rows rows := (rfl)
theorem good_loop (l : ALoop) : goodO (.loop l) = true := (rfl)
theorem good_deferred : goodO .deferred = true := (rfl)
theorem good_siter (s : ByteArray) (p : Nat) : goodO (.siter s p) = true := (rfl)
attribute [simp] sameL_nil sameL_cons same_unk same_bool same_int same_str same_ptr same_nilptr same_nilsl same_niliface same_nilfn same_rsl good_cells good_arr good_loop good_deferred good_siter next_drop
attribute [simp] put_put get_new_self next_new next_put
end Go.Ab
namespace Go.Ab
/-- The first of some, or none at all. -/
theorem first_or_all (p : Nat → Prop) : ∀ n, (∃ m, m < n ∧ p m ∧ ∀ k, k < m → ¬ p k) ∨ ∀ k, k < n → ¬ p k
  | 0 => .inr fun _ h => absurd h (Nat.not_lt_zero _)
  | n + 1 => by
    rcases first_or_all p n with ⟨m, h1, h2, h3⟩ | h
    · exact .inl ⟨m, by omega, h2, h3⟩
    · by_cases hp : p n
      · exact .inl ⟨n, by omega, hp, h⟩
      · refine .inr fun k hk => ?_
        by_cases e : k = n
        · rw [e]; exact hp
        · exact h k (by omega)
end Go.Ab
namespace Go.Ab
/-! ### Arguments -/
def cntT (t : Tmp) : List Tmp → Nat
  | [] => 0
  | u :: r => (bif u == t then 1 else 0) + cntT t r
theorem cntT_eq (t : Tmp) : ∀ l : List Tmp, l.count t = cntT t l
  | [] => rfl
  | u :: r => by
    rw [List.count_cons, cntT_eq t r, cntT]
    cases (u == t) <;> simp [Nat.add_comm]
def argT (n : Nat) (v : AV) : AV := match n with | 1 => v.clr | _ => v.strip
def argsL (env : List AV) (ts : List Tmp) : List Operand → List AV
  | [] => []
  | .tmp t :: r => argT (cntT t ts) (getT env t) :: argsL env ts r
  | x :: r => opd env x :: argsL env ts r
theorem argsA_eq (env : List AV) (l : List Operand) : argsA env l = argsL env (tmpsOf l) l := by
  unfold argsA
  suffices h : ∀ r, r.map (fun x => if sole l x then opt env x else opd env x) = argsL env (tmpsOf l) r from h l
  intro r
  induction r with
  | nil => rfl
  | cons x r ih =>
    rw [List.map_cons, ih]
    cases x <;> try rfl
    rename_i t
    simp only [sole, argsL, argT, cntT_eq, opt_tmp, opd_tmp]
    by_cases h : cntT t (tmpsOf l) = 1
    · simp [h]
    · have : (cntT t (tmpsOf l) == 1) = false := by simpa using h
      rw [this]
      congr 1
      generalize cntT t (tmpsOf l) = c at h
      match c, h with
      | 0, _ => rfl
      | 1, h => exact absurd rfl h
      | _ + 2, _ => rfl
theorem argsL_nil (env : List AV) (ts : List Tmp) : argsL env ts [] = [] := (rfl)
theorem argsL_tmp (env : List AV) (ts : List Tmp) (t : Tmp) (r : List Operand) : argsL env ts (.tmp t :: r) = argT (cntT t ts) (getT env t) :: argsL env ts r := (rfl)
theorem argsL_const (env : List AV) (ts : List Tmp) (v : Value) (r : List Operand) : argsL env ts (.const v :: r) = AV.ofConst v :: argsL env ts r := (rfl)
theorem argsL_func (env : List AV) (ts : List Tmp) (g : FuncId) (r : List Operand) : argsL env ts (.func g :: r) = .fn (.func g) [] [] :: argsL env ts r := (rfl)
theorem argT_one (v : AV) : argT 1 v = v.clr := (rfl)
theorem argT_more (n : Nat) (v : AV) : argT (n + 2) v = v.strip := (rfl)
theorem cntT_nil (t : Tmp) : cntT t [] = 0 := (rfl)
theorem cntT_cons (t u : Tmp) (r : List Tmp) : cntT t (u :: r) = (bif u == t then 1 else 0) + cntT t r := (rfl)
attribute [simp] argsA_eq argsL_nil argsL_tmp argsL_const argsL_func argT_one argT_more cntT_nil cntT_cons
end Go.Ab
namespace Go.Ab
variable {P : Program}
/-! ### Slicing -/
theorem bound_none (d : Nat) : boundA d none = some d := (rfl)
theorem bound_cast (d : Nat) (k : IntKind) (n : Nat) : boundA d (some (.int k n)) = some n := by simp [boundA]
theorem slice_lo {t e : TypeId} {own : Bool} {es : Nat} {rows : List (List AV)} {k : Nat} {kk : IntKind} (ht : P.underlying t = some (.slice e)) (he : P.cellsOf e = es) (h : k ≤ rows.length) :
    sliceA P t (.sl own es rows) (some (.int kk k)) none none = some (.sl own es (rows.drop k)) := by
  simp only [sliceA, ht, bound_none, bound_cast]
  rw [if_pos ⟨h, Nat.le_refl _, he.symm⟩]
  simp
theorem slice_hi {t e : TypeId} {own : Bool} {es : Nat} {rows : List (List AV)} {k : Nat} {kk : IntKind} (ht : P.underlying t = some (.slice e)) (he : P.cellsOf e = es) (h : k ≤ rows.length) :
    sliceA P t (.sl own es rows) none (some (.int kk k)) none = some (.sl (own && (k == rows.length)) es (rows.take k)) := by
  simp only [sliceA, ht, bound_none, bound_cast]
  rw [if_pos ⟨Nat.zero_le _, h, he.symm⟩]
  simp
theorem slice_hi3 {t e : TypeId} {own : Bool} {es : Nat} {rows : List (List AV)} {k : Nat} {kk kl : IntKind} (ht : P.underlying t = some (.slice e)) (he : P.cellsOf e = es) (h : k ≤ rows.length) :
    sliceA P t (.sl own es rows) none (some (.int kk k)) (some (.int kl k)) = some (.sl (own || k == 0) es (rows.take k)) := by
  simp only [sliceA, ht, bound_none, bound_cast]
  rw [if_pos ⟨Nat.zero_le _, h, he.symm⟩]
  simp
theorem slice_lohi {t e : TypeId} {own : Bool} {es : Nat} {rows : List (List AV)} {k l : Nat} {kk kl : IntKind} (ht : P.underlying t = some (.slice e)) (he : P.cellsOf e = es) (h : k ≤ rows.length) (hl : l ≤ k) :
    sliceA P t (.sl own es rows) (some (.int kl l)) (some (.int kk k)) none = some (.sl (own && (k == rows.length)) es ((rows.take k).drop l)) := by
  simp only [sliceA, ht, bound_cast]
  rw [if_pos ⟨hl, h, he.symm⟩]
end Go.Ab
namespace Go.Ab
/-! ### Loops whose rounds go from state to state of a family -/
def famK {ι : Type} (keep : Option (List Bool)) (E : ι → St) (T : ι → AExit × St → Prop) (μ : ι → Nat) (i : ι) (r : Option (AExit × St)) : Prop := match r with
  | some (.normal, st') => ∃ j, μ j < μ i ∧ st'.masked keep = E j ∧ ∀ r, T j r → T i r
  | some r => T i r
  | none => False
section
variable {ι : Type} {keep : Option (List Bool)} {E : ι → St} {T : ι → AExit × St → Prop} {μ : ι → Nat} {i : ι}
@[congr] theorem famK_congr {r r' : Option (AExit × St)} (h : r = r') : famK keep E T μ i r = famK keep E T μ i r' := by rw [h]
theorem famK_normal (st' : St) : famK keep E T μ i (some (.normal, st')) = ∃ j, μ j < μ i ∧ st'.masked keep = E j ∧ ∀ r, T j r → T i r := (rfl)
theorem famK_ret (st' : St) : famK keep E T μ i (some (.ret, st')) = T i (.ret, st') := (rfl)
theorem famK_exit (k : Nat) (st' : St) : famK keep E T μ i (some (.exit k, st')) = T i (.exit k, st') := (rfl)
theorem famK_goto (k : Nat) (st' : St) : famK keep E T μ i (some (.goto k, st')) = T i (.goto k, st') := (rfl)
theorem famK_pan (ch : List APan) (st' : St) : famK keep E T μ i (some (.pan ch, st')) = T i (.pan ch, st') := (rfl)
theorem loop_fam {body : St → Option (AExit × St)} (E : ι → St) (T : ι → AExit × St → Prop) (μ : ι → Nat) (h : ∀ i, famK keep E T μ i (body (E i))) :
    ∀ (N : Nat) (i : ι) (st : St), μ i < N → st.masked keep = E i → ∃ x st', loopN keep body N st = some (x, st') ∧ T i (x, st')
  | 0, _, _, hN, _ => absurd hN (Nat.not_lt_zero _)
  | N + 1, i, st, hN, h0 => by
    have hi := h i
    show ∃ x st', (match body (st.masked keep) with | some (.normal, st') => loopN keep body N st' | r => r) = some (x, st') ∧ T i (x, st')
    rw [h0]
    unfold famK at hi
    split at hi
    · rename_i st1 hb
      obtain ⟨j, h1, h2, h3⟩ := hi
      rw [hb]
      obtain ⟨x, st', g1, g2⟩ := loop_fam E T μ h N j st1 (by omega) h2
      exact ⟨x, st', g1, h3 _ g2⟩
    · rename_i r hr hb
      obtain ⟨x, st'⟩ := r
      rw [hb]
      refine ⟨x, st', ?_, hi⟩
      cases x <;> first | rfl | exact absurd rfl (hr _)
    · cases hi
end
attribute [simp] famK_normal famK_ret famK_exit famK_goto famK_pan
end Go.Ab
namespace Go.Ab
theorem loop_fam' {ι : Type} {keep : Option (List Bool)} {body : St → Option (AExit × St)} {N : Nat} {st : St} {L : Option (AExit × St)} (hL : loopN keep body N st = L) (E : ι → St) (T : ι → AExit × St → Prop) (μ : ι → Nat) (i : ι) (hN : μ i < N) (h0 : st.masked keep = E i)
    (h : ∀ i, famK keep E T μ i (body (E i))) : ∃ x st', L = some (x, st') ∧ T i (x, st') := by
  subst hL
  exact loop_fam E T μ h N i st hN h0
end Go.Ab
namespace Go.Ab
theorem getT_setT_self : ∀ {env : List AV} {t : Nat} {v : AV}, t < env.length → getT (setT env t v) t = v
  | [], t, v, h => absurd h (Nat.not_lt_zero _)
  | a :: r, 0, v, _ => rfl
  | a :: r, t + 1, v, h => by
    show getT (setT r t v) t = v
    exact getT_setT_self (by simpa using h)
theorem setT_length : ∀ (env : List AV) (t : Nat) (v : AV), (setT env t v).length = env.length
  | [], t, v => by cases t <;> rfl
  | a :: r, 0, v => rfl
  | a :: r, t + 1, v => by
    show (setT r t v).length + 1 = _
    rw [setT_length r t v]; rfl
theorem getT_setT_ne : ∀ {env : List AV} {t u : Nat} {v : AV}, t ≠ u → getT (setT env t v) u = getT env u
  | [], t, u, v, _ => by cases t <;> cases u <;> rfl
  | a :: r, 0, 0, v, h => absurd rfl h
  | a :: r, 0, u + 1, v, _ => rfl
  | a :: r, t + 1, 0, v, _ => rfl
  | a :: r, t + 1, u + 1, v, h => by
    show getT (setT r t v) u = getT r u
    exact getT_setT_ne (by omega)
end Go.Ab
namespace Go.Ab
variable {P : Program}
/-- A read that takes, without a test that the kernel would have to look into. -/
theorem takeCells_eq (t : TypeId) (off : Nat) (cs : List AV) : takeCells P t off cs = oB (valAt P t (cs.drop off)) fun v => bif (aggT P t || !isAggV v) then some (v, cs.take off ++ (v.cells.map AV.strip0) ++ cs.drop (off + v.cells.length)) else none := by
  unfold takeCells oB
  cases valAt P t (cs.drop off) with
  | none => rfl
  | some v =>
    simp only
    cases (aggT P t || !isAggV v) <;> rfl
end Go.Ab
/- Scopes, deferred calls, going over texts, loops over functions, as rewriting. -/
namespace Go.Ab
variable {P : Program} {H : Handler} {pol : Pol} {f : FuncId} {pl : List Tmp} {N : Nat} {round : Option Nat}
section ops
variable {d : Option Tmp} {ty : TypeId} {po : String} {af : Array Edge} {g : Option (Nat × Bool)} {st : St}
/-- A text's going over. -/
def rangeK (P : Program) (t : TypeId) (v : AV) (st : St) : Option OR := match P.underlying t, v with
  | some .string, .str s => some (.val (.ptr st.S.next 0) { st with S := st.S.new (.siter ⟨s.toArray⟩ 0) })
  | _, _ => none
theorem opA_range {t : TypeId} {x : Operand} : opA P pol f pl ⟨d, .range t x, ty, po, af, g⟩ st = rangeK P t (opd st.env x) st := by
  unfold opA
  simp only [consumed, stripAt, rangeK]
  rfl
def siterOf : Option Obj → Option (ByteArray × Nat)
  | some (.siter s p) => some (s, p)
  | _ => none
theorem siterOf_some (s : ByteArray) (p : Nat) : siterOf (some (.siter s p)) = some (s, p) := (rfl)
def nextK (v : AV) (st : St) : Option OR := match v with
  | .ptr id 0 => oB (siterOf (st.S.get id)) fun q => bif decide (q.2 < q.1.size) then
          some (.val (.tup [.bool true, .int .i64 q.2, .int .i32 (Utf8.decode q.1 q.2).1]) { st with S := st.S.put id (.siter q.1 (q.2 + (Utf8.decode q.1 q.2).2)) })
        else some (.val (.tup [.bool false]) st)
  | _ => none
theorem nextK_ptr (id : Nat) : nextK (.ptr id 0) st = oB (siterOf (st.S.get id)) fun q => bif decide (q.2 < q.1.size) then
          some (.val (.tup [.bool true, .int .i64 q.2, .int .i32 (Utf8.decode q.1 q.2).1]) { st with S := st.S.put id (.siter q.1 (q.2 + (Utf8.decode q.1 q.2).2)) })
        else some (.val (.tup [.bool false]) st) := (rfl)
theorem opA_next {x : Operand} : opA P pol f pl ⟨d, .next x true, ty, po, af, g⟩ st = nextK (opd st.env x) st := by
  unfold opA
  simp only [consumed, stripAt, nextK]
  cases opd st.env x <;> try rfl
  rename_i id off
  cases off with
  | succ n => rfl
  | zero =>
    simp only
    cases st.S.get id with
    | none => rfl
    | some o =>
      cases o <;> try rfl
      rename_i s p
      simp only [siterOf, oB]
      by_cases h : p < s.size <;> simp [h]
end ops
attribute [simp] opA_range opA_next siterOf_some nextK_ptr okD_no okD_yes fixD_no fixD_yes

/-! ### Scopes -/
def scopeK (H : Handler) (f : FuncId) (round : Option Nat) (c : Code) (r : Option (AExit × St)) : Option (AExit × St) := match r with
  | some (.goto l, st') => match findLabel c l with
      | some rest => match H.code f round rest st' with
        | some (.goto l', st2) => if (findLabel c l').isSome then none else some (.goto l', st2)
        | r => r
      | none => some (.goto l, st')
  | r => r
@[congr] theorem scopeK_congr {c : Code} {r r' : Option (AExit × St)} (h : r = r') : scopeK H f round c r = scopeK H f round c r' := by rw [h]
theorem scopeK_normal (c : Code) (st : St) : scopeK H f round c (some (.normal, st)) = some (.normal, st) := (rfl)
theorem scopeK_ret (c : Code) (st : St) : scopeK H f round c (some (.ret, st)) = some (.ret, st) := (rfl)
theorem scopeK_exit (c : Code) (i : Nat) (st : St) : scopeK H f round c (some (.exit i, st)) = some (.exit i, st) := (rfl)
theorem scopeK_pan (c : Code) (ch : List APan) (st : St) : scopeK H f round c (some (.pan ch, st)) = some (.pan ch, st) := (rfl)
theorem ev_scope (c : Code) (st : St) : evCode P H N pol f round (.scope c) st = scopeK H f round c (evCode P H N pol f round c st) := by
  conv => lhs; unfold evCode
  unfold scopeK
  rfl
attribute [simp] scopeK_normal scopeK_ret scopeK_exit scopeK_pan ev_scope

/-! ### Deferred calls -/
def uwK (H : Handler) (ds : List ADef) (_m : AMode) (r : Option (AEnd × AMode × Sto)) : Option (AMode × Sto) := match r with
  | some (.ret _, m', S') => unwindA H ds (settleA m') S'
  | some (.pan ch, m', S') => unwindA H ds (raisedA m' ch) S'
  | none => none
@[congr] theorem uwK_congr {ds : List ADef} {m : AMode} {r r' : Option (AEnd × AMode × Sto)} (h : r = r') : uwK H ds m r = uwK H ds m r' := by rw [h]
theorem uwK_ret (ds : List ADef) (m m' : AMode) (v : AV) (S : Sto) : uwK H ds m (some (.ret v, m', S)) = unwindA H ds (settleA m') S := (rfl)
theorem uwK_pan (ds : List ADef) (m m' : AMode) (ch : List APan) (S : Sto) : uwK H ds m (some (.pan ch, m', S)) = unwindA H ds (raisedA m' ch) S := (rfl)
theorem unwind_fn (g : FuncId) (cap args : List AV) (ds : List ADef) (m : AMode) (S : Sto) : unwindA H (⟨.fn (.func g) cap, args⟩ :: ds) m S = uwK H ds m (H.callD g (args ++ cap) m S) := by
  unfold uwK
  conv => lhs; unfold unwindA
  rfl
def deferredK {α : Type} (o : Option Obj) (x : Option α) : Option α := match o with | some .deferred => x | _ => none
@[congr] theorem deferredK_congr {α : Type} {o o' : Option Obj} {x : Option α} (h : o = o') : deferredK o x = deferredK o' x := by rw [h]
theorem deferredK_some {α : Type} (x : Option α) : deferredK (some .deferred) x = x := (rfl)
theorem unwind_coll (id : Nat) (args : List AV) (ds : List ADef) (m : AMode) (S : Sto) : unwindA H (⟨.coll id, args⟩ :: ds) m S = deferredK (S.get id) (unwindA H ds m (S.drop id)) := by
  unfold deferredK
  conv => lhs; unfold unwindA
  rfl
theorem callD_eq {n : Nat} (g : FuncId) (args : List AV) (m : AMode) (S : Sto) : (handler P pol (n + 1)).callD g args m S = runFn P (handler P pol n) n pol g m args S := (rfl)
theorem settle_ret : settleA .returning = .returning := (rfl)
theorem settle_rec (v : AV) (l : List APan) : settleA (.panicking (⟨v, true⟩ :: l)) = .returning := (rfl)
theorem settle_pan (v : AV) (l : List APan) : settleA (.panicking (⟨v, false⟩ :: l)) = .panicking (⟨v, false⟩ :: l) := (rfl)
attribute [simp] uwK_ret uwK_pan unwind_fn unwind_coll deferredK_some settle_ret settle_rec settle_pan
def recK (par : AMode) (st : St) : Option (AV × St) := match par with
  | .unk => none
  | .panicking (⟨v, false⟩ :: older) => some (v, { st with par := .panicking (⟨v, true⟩ :: older) })
  | _ => some (.niliface, st)
theorem recover_eq (st : St) : recoverA st = recK st.par st := (rfl)
theorem recK_pan (v : AV) (older : List APan) (st : St) : recK (.panicking (⟨v, false⟩ :: older)) st = some (v, { st with par := .panicking (⟨v, true⟩ :: older) }) := (rfl)
theorem recK_ret (st : St) : recK .returning st = some (.niliface, st) := (rfl)
theorem recK_none (st : St) : recK .none st = some (.niliface, st) := (rfl)
attribute [simp] recover_eq recK_pan recK_ret recK_none
def defK (par : AMode) (v : AV) (args : List AV) (st : St) : Option St := match par, v with
  | .unk, _ => none
  | _, .fn (.func g) first cap => some { st with defs := ⟨.fn (.func g) cap, first ++ args⟩ :: st.defs }
  | _, _ => none
theorem deferA_none (g : FuncId) (first cap args : List AV) (env : List AV) (defs : List ADef) (S : Sto) : deferA { env := env, defs := defs, par := .none, S := S } (.fn (.func g) first cap) args = some { env := env, defs := ⟨.fn (.func g) cap, first ++ args⟩ :: defs, par := .none, S := S } := (rfl)
attribute [simp] deferA_none

/-! ### Loops over functions -/
/-- The loop as it lies in the store. -/
def loopOf (pol : Pol) (f : FuncId) (ps : Array Tmp) (as body : Code) (st : St) (dn : Nat) : ALoop :=
  { state := .ready, pending := none, fn := f, env := (st.masked (pol.keep f)).env.map AV.strip, params := ps.toList, assign := as, body := body, defers := dn }
def rgEnd (id : Nat) (st : St) (defs : List ADef) (r : Option (AEnd × Sto)) : Option (AExit × St) := match r with
  | none => none
  | some (.pan ch, S3) => some (.pan ch, { st with S := S3, defs })
  | some (.ret _, S3) => match S3.get id with
    | some (.loop r) =>
      if r.state = .busy then none else
      let st' := { st with S := S3.drop id, defs }
      match r.pending with
      | none => some (.normal, st')
      | some .ret => some (.ret, st')
      | some (.exit j) => some (.exit j, st')
      | some (.goto j) => some (.goto j, st')
      | some _ => none
    | _ => none
@[congr] theorem rgEnd_congr {id : Nat} {st : St} {defs : List ADef} {r r' : Option (AEnd × Sto)} (h : r = r') : rgEnd id st defs r = rgEnd id st defs r' := by rw [h]
def rgK (H : Handler) (v : AV) (id : Nat) (S2 : Sto) (st : St) (defs : List ADef) : Option (AExit × St) := match v with
  | .fn (.func g) first cap => rgEnd id st defs (H.call (.func g) (first ++ [.yld id] ++ cap) S2)
  | _ => none
@[congr] theorem rgK_congr {v v' : AV} {id : Nat} {S2 : Sto} {st : St} {defs : List ADef} (h : v = v') : rgK H v id S2 st defs = rgK H v' id S2 st defs := by rw [h]
theorem rgK_fn (g : FuncId) (first cap : List AV) (id : Nat) (S2 : Sto) (st : St) (defs : List ADef) : rgK H (.fn (.func g) first cap) id S2 st defs = rgEnd id st defs (H.call (.func g) (first ++ [.yld id] ++ cap) S2) := (rfl)
theorem ev_rangeFunc (g : Operand) (ps : Array Tmp) (as body : Code) (st : St) : evCode P H N pol f none (.rangeFunc g ps as body) st =
    rgK H (opd st.env g) (st.S.next + 1) ((st.S.new .deferred).new (.loop (loopOf pol f ps as body st st.S.next))) st (⟨.coll st.S.next, []⟩ :: st.defs) := by
  conv => lhs; unfold evCode
  unfold evRange rgK
  cases opd st.env g <;> try rfl
theorem rgEnd_pan (id : Nat) (st : St) (defs : List ADef) (ch : List APan) (S3 : Sto) : rgEnd id st defs (some (.pan ch, S3)) = some (.pan ch, { st with S := S3, defs }) := (rfl)
theorem rgEnd_ret {id : Nat} {st : St} {defs : List ADef} {v : AV} {S3 : Sto} {r : ALoop} (h : S3.get id = some (.loop r)) (hs : r.state = .ready) (hp : r.pending = none) :
    rgEnd id st defs (some (.ret v, S3)) = some (.normal, { st with S := S3.drop id, defs }) := by
  simp only [rgEnd, h, hs, hp]
  rfl
attribute [simp] rgK_fn ev_rangeFunc rgEnd_pan
/-- A round that goes on. -/
theorem yield_run {id : Nat} {args : List AV} {S : Sto} {st st2 : St} {r : ALoop} (hS : S.get id = some (.loop r)) (hr : r.state = .ready) (hp : r.pending = none) (hl : args.length = r.params.length) (hf : (P.funcs[r.fn]?).isSome = true)
    (h1 : evCode P H N pol r.fn (some id) r.assign { env := setAll r.env r.params (args.map AV.strip), defs := [], par := .unk, S := S } = some (.normal, st)) (hd : st.defs = []) (hS1 : st.S = S)
    (h2 : evCode P H N pol r.fn (some id) r.body { st with S := S.put id (.loop { r with state := .busy }) } = some (.normal, st2)) (hd2 : st2.defs = []) (hS2 : st2.S.get id = some (.loop { r with state := .busy })) :
    runYield P H N pol id args S = some (.ret (.bool true), st2.S.put id (.loop r)) := by
  unfold runYield
  rw [hS]
  simp only
  rw [if_pos ⟨hl, hf⟩, h1]
  simp only
  rw [hS1, hS]
  simp only
  rw [if_pos ⟨by rw [hd]; rfl, hr⟩, h2]
  simp only
  rw [hS2]
  simp only
  rw [hd2]
  obtain ⟨a, b, c, d, e, g, i, j⟩ := r
  simp only at hr hp
  subst hr hp
  rfl
def setAllT : List AV → List Tmp → List AV → List AV
  | env, t :: ts, a :: as => setAllT (setT env t a) ts as
  | env, _, _ => env
theorem setAll_eq : ∀ (env : List AV) (ts : List Tmp) (as : List AV), setAll env ts as = setAllT env ts as
  | env, [], as => by cases as <;> rfl
  | env, t :: ts, [] => rfl
  | env, t :: ts, a :: as => by
    show setAll (env.set t a) ts as = setAllT (setT env t a) ts as
    rw [setT_eq]; exact setAll_eq _ ts as
theorem setAllT_cons (env : List AV) (t : Tmp) (ts : List Tmp) (a : AV) (as : List AV) : setAllT env (t :: ts) (a :: as) = setAllT (setT env t a) ts as := (rfl)
theorem setAllT_nil (env : List AV) (as : List AV) : setAllT env [] as = env := by cases as <;> rfl
attribute [simp] setAll_eq setAllT_cons setAllT_nil
/-! ### A round, as rewriting -/
def yFin (id : Nat) (res : Option (AExit × St)) : Option (AEnd × Sto) := match res with
  | some (x, st2) => match st2.S.get id with
    | some (.loop r2) =>
      if st2.defs.isEmpty = false then none else
      let fin (j : Option Code) : Option (AEnd × Sto) :=
        some (.ret (.bool j.isNone), st2.S.put id (.loop { r2 with state := if j.isNone then .ready else .done, pending := j }))
      match x with
      | .normal => fin none
      | .ret => fin (some .ret)
      | .exit j => fin (some (.exit j))
      | .goto j => fin (some (.goto j))
      | .pan ch => some (.pan ch, st2.S)
    | _ => none
  | none => none
@[congr] theorem yFin_congr {id : Nat} {r r' : Option (AExit × St)} (h : r = r') : yFin id r = yFin id r' := by rw [h]
def yBody (P : Program) (H : Handler) (N : Nat) (pol : Pol) (r : ALoop) (id : Nat) (res : Option (AExit × St)) : Option (AEnd × Sto) := match res with
  | some (.normal, st) => match st.S.get id with
    | some (.loop r1) => if st.defs.isEmpty ∧ r1.state = .ready then yFin id (evCode P H N pol r.fn (some id) r.body { st with S := st.S.put id (.loop { r1 with state := .busy }) }) else none
    | _ => none
  | _ => none
@[congr] theorem yBody_congr {r : ALoop} {id : Nat} {x x' : Option (AExit × St)} (h : x = x') : yBody P H N pol r id x = yBody P H N pol r id x' := by rw [h]
theorem yield_eq {id : Nat} {args : List AV} {S : Sto} {r : ALoop} (hS : S.get id = some (.loop r)) (hl : args.length = r.params.length) (hf : (P.funcs[r.fn]?).isSome = true) :
    runYield P H N pol id args S = yBody P H N pol r id (evCode P H N pol r.fn (some id) r.assign { env := setAll r.env r.params (args.map AV.strip), defs := [], par := .unk, S := S }) := by
  unfold runYield
  rw [hS]
  simp only
  rw [if_pos ⟨hl, hf⟩]
  unfold yBody yFin
  rfl
theorem yBody_normal {r r1 : ALoop} {id : Nat} {env : List AV} {par : AMode} {S : Sto} (h : S.get id = some (.loop r1)) (hs : r1.state = .ready) :
    yBody P H N pol r id (some (.normal, { env := env, defs := [], par := par, S := S })) = yFin id (evCode P H N pol r.fn (some id) r.body { env := env, defs := [], par := par, S := S.put id (.loop { r1 with state := .busy }) }) := by
  simp only [yBody, h]
  rw [if_pos ⟨rfl, hs⟩]
theorem yFin_normal {r : ALoop} {id : Nat} {env : List AV} {par : AMode} {S : Sto} (h : S.get id = some (.loop r)) :
    yFin id (some (.normal, { env := env, defs := [], par := par, S := S })) = some (.ret (.bool true), S.put id (.loop { r with state := .ready, pending := none })) := by
  simp only [yFin, h]
  rfl
theorem yFin_ret {r : ALoop} {id : Nat} {env : List AV} {par : AMode} {S : Sto} (h : S.get id = some (.loop r)) :
    yFin id (some (.ret, { env := env, defs := [], par := par, S := S })) = some (.ret (.bool false), S.put id (.loop { r with state := .done, pending := some .ret })) := by
  simp only [yFin, h]
  rfl
theorem yFin_exit {r : ALoop} {id j : Nat} {env : List AV} {par : AMode} {S : Sto} (h : S.get id = some (.loop r)) :
    yFin id (some (.exit j, { env := env, defs := [], par := par, S := S })) = some (.ret (.bool false), S.put id (.loop { r with state := .done, pending := some (.exit j) })) := by
  simp only [yFin, h]
  rfl
theorem rgEnd_done {id : Nat} {st : St} {defs : List ADef} {v : AV} {S3 : Sto} {r : ALoop} (h : S3.get id = some (.loop r)) (hs : r.state = .done) (hp : r.pending = some .ret) :
    rgEnd id st defs (some (.ret v, S3)) = some (.ret, { st with S := S3.drop id, defs }) := by
  simp only [rgEnd, h, hs, hp]
  rfl
theorem rgEnd_exit {id j : Nat} {st : St} {defs : List ADef} {v : AV} {S3 : Sto} {r : ALoop} (h : S3.get id = some (.loop r)) (hs : r.state = .done) (hp : r.pending = some (.exit j)) :
    rgEnd id st defs (some (.ret v, S3)) = some (.exit j, { st with S := S3.drop id, defs }) := by
  simp only [rgEnd, h, hs, hp]
  rfl
/-! What is known is gone on with before what follows it is looked at. -/
attribute [simp ↓] oB_some oB_none bindN_normal bindN_ret bindN_exit bindN_goto bindN_pan blkK_normal blkK_ret blkK_pan blkK_exit bK_true bK_false gK_tt gK_ff gK_tf gK_ft gK_un gK_un' rK_val rK_pan rK_call cK_ret cK_pan
attribute [simp ↓] ev_skip ev_label ev_seq ev_cond ev_block ev_exit ev_goto ev_ret ev_regionL ev_loop ev_draw wantedL_none wantedL_some gT_some evL_nil evL_cons
attribute [simp ↓] fK_none fixD_nil sK_true cKD_ret cKD_pan rKD_val rKD_pan rKD_call evLD_nil evLD_cons dK_normal dK_pan bxK_true
attribute [simp ↓] nbK_unk nbK_bool nbK_int nbK_str nbK_nilptr nbK_ptr nbK_fptr nbK_lptr nbK_nilsl nbK_sl nbK_rsl nbK_aptr nbK_nilmap nbK_map nbK_nilfn nbK_fn nbK_yld nbK_niliface nbK_iface nbK_agg nbK_tup nbK_undef nbK_sv
attribute [simp ↓] famK_normal famK_ret famK_exit famK_goto famK_pan stepOK_normal contK_ret contK_exit contK_goto contK_pan finK_normal finK_ret finK_pan endK_ret endK_pan
attribute [simp ↓] scopeK_normal scopeK_ret scopeK_exit scopeK_pan uwK_ret uwK_pan deferredK_some
end Go.Ab
