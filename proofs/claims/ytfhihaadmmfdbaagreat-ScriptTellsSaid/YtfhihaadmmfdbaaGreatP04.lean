/- Raw and Check tell of one event as the document says, whatever the event (pomanderlaw19.ScriptTells). No conditions. -/
import Derived.Test.YtfhihaadmmfdbaaGreatP03
namespace Go.Ab
variable {P : Program} {H : Handler} {pol : Pol} {f : FuncId} {ops : Array Oper} {pl : List Tmp} {N : Nat} {round : Option Nat}
def oB {α β : Type} (x : Option α) (k : α → Option β) : Option β := match x with | none => none | some a => k a
@[congr] theorem oB_congr {α β : Type} {x x' : Option α} {k : α → Option β} (h : x = x') : oB x k = oB x' k := by rw [h]
theorem oB_some {α β : Type} (a : α) (k : α → Option β) : oB (some a) k = k a := (rfl)
theorem oB_none {α β : Type} (k : α → Option β) : oB none k = none := (rfl)
def bindN (r : Option (AExit × St)) (k : St → Option (AExit × St)) : Option (AExit × St) := match r with | some (.normal, st) => k st | r => r
@[congr] theorem bindN_congr {r r' : Option (AExit × St)} {k : St → Option (AExit × St)} (h : r = r') : bindN r k = bindN r' k := by rw [h]
theorem bindN_normal (st : St) (k : St → Option (AExit × St)) : bindN (some (.normal, st)) k = k st := (rfl)
theorem bindN_ret (st : St) (k : St → Option (AExit × St)) : bindN (some (.ret, st)) k = some (.ret, st) := (rfl)
theorem bindN_exit (i : Nat) (st : St) (k : St → Option (AExit × St)) : bindN (some (.exit i, st)) k = some (.exit i, st) := (rfl)
theorem bindN_goto (i : Nat) (st : St) (k : St → Option (AExit × St)) : bindN (some (.goto i, st)) k = some (.goto i, st) := (rfl)
theorem bindN_pan (ch : List APan) (st : St) (k : St → Option (AExit × St)) : bindN (some (.pan ch, st)) k = some (.pan ch, st) := (rfl)
def blkK (mk : Option (List Bool)) (id : Nat) (r : Option (AExit × St)) : Option (AExit × St) := match r with
 | some (.exit id', st') => if id' = id then some (.normal, st'.masked mk) else some (.exit id', st')
 | r => r
theorem blkK_normal (mk : Option (List Bool)) (id : Nat) (st : St) : blkK mk id (some (.normal, st)) = some (.normal, st) := (rfl)
theorem blkK_ret (mk : Option (List Bool)) (id : Nat) (st : St) : blkK mk id (some (.ret, st)) = some (.ret, st) := (rfl)
theorem blkK_pan (mk : Option (List Bool)) (id : Nat) (ch : List APan) (st : St) : blkK mk id (some (.pan ch, st)) = some (.pan ch, st) := (rfl)
theorem blkK_exit (mk : Option (List Bool)) (id id' : Nat) (st : St) : blkK mk id (some (.exit id', st)) = if id' = id then some (.normal, st.masked mk) else some (.exit id', st) := (rfl)
theorem masked_none (st : St) : st.masked none = st := (rfl)
def bK {α : Type} (v : AV) (x y : Option α) : Option α := match v with | .bool true => x | .bool false => y | _ => none
@[congr] theorem bK_congr {α : Type} {v v' : AV} {x y : Option α} (h : v = v') : bK v x y = bK v' x y := by rw [h]
theorem bK_true {α : Type} (x y : Option α) : bK (.bool true) x y = x := (rfl)
theorem bK_false {α : Type} (x y : Option α) : bK (.bool false) x y = y := (rfl)
def gK {α : Type} (v : AV) (want : Bool) (x y : Option α) : Option α := match v with | .bool b => if b = want then x else y | .tup [] => y | _ => none
@[congr] theorem gK_congr {α : Type} {v v' : AV} {w : Bool} {x y : Option α} (h : v = v') : gK v w x y = gK v' w x y := by rw [h]
theorem gK_tt {α : Type} (x y : Option α) : gK (.bool true) true x y = x := (rfl)
theorem gK_ff {α : Type} (x y : Option α) : gK (.bool false) false x y = x := (rfl)
theorem gK_tf {α : Type} (x y : Option α) : gK (.bool true) false x y = y := (rfl)
theorem gK_ft {α : Type} (x y : Option α) : gK (.bool false) true x y = y := (rfl)
theorem gK_un {α : Type} (w : Bool) (x y : Option α) : gK (.tup []) w x y = y := (rfl)
theorem gK_un' {α : Type} (w : Bool) (x y : Option α) : gK .undef w x y = y := (rfl)
def rK (H : Handler) (r : OR) (k : AV → St → Option (AExit × St)) : Option (AExit × St) := match r with
 | .val v st' => k v st'
 | .pan ch st' => some (.pan ch, st')
 | .call t as st' => match H.call t as st'.S with
  | none => none
  | some (.ret v, S') => k v { st' with S := S' }
  | some (.pan ch, S') => some (.pan ch, { st' with S := S' })
@[congr] theorem rK_congr {r r' : OR} {k : AV → St → Option (AExit × St)} (h : r = r') : rK H r k = rK H r' k := by rw [h]
theorem rK_val (v : AV) (st : St) (k : AV → St → Option (AExit × St)) : rK H (.val v st) k = k v st := (rfl)
theorem rK_pan (ch : List APan) (st : St) (k : AV → St → Option (AExit × St)) : rK H (.pan ch st) k = some (.pan ch, st) := (rfl)
def cK (r : Option (AEnd × Sto)) (st : St) (k : AV → St → Option (AExit × St)) : Option (AExit × St) := match r with
 | none => none
 | some (.ret v, S') => k v { st with S := S' }
 | some (.pan ch, S') => some (.pan ch, { st with S := S' })
@[congr] theorem cK_congr {r r' : Option (AEnd × Sto)} {st : St} {k : AV → St → Option (AExit × St)} (h : r = r') : cK r st k = cK r' st k := by rw [h]
theorem cK_ret (v : AV) (S' : Sto) (st : St) (k : AV → St → Option (AExit × St)) : cK (some (.ret v, S')) st k = k v { st with S := S' } := (rfl)
theorem cK_pan (ch : List APan) (S' : Sto) (st : St) (k : AV → St → Option (AExit × St)) : cK (some (.pan ch, S')) st k = some (.pan ch, { st with S := S' }) := (rfl)
theorem rK_call (t : Tgt) (as : List AV) (st : St) (k : AV → St → Option (AExit × St)) : rK H (.call t as st) k = cK (H.call t as st.S) st k := by
 simp only [rK, cK]
theorem ev_skip (st : St) : evCode P H N pol f round .skip st = some (.normal, st) := (rfl)
theorem ev_label (l : Nat) (st : St) : evCode P H N pol f round (.label l) st = some (.normal, st) := (rfl)
theorem ev_seq (a b : Code) (st : St) : evCode P H N pol f round (.seq a b) st = bindN (evCode P H N pol f round a st) (evCode P H N pol f round b) := by
 conv => lhs; unfold evCode
 unfold bindN
 rfl
theorem ev_cond (c : Operand) (a b : Code) (st : St) : evCode P H N pol f round (.cond c a b) st = bK (opd st.env c) (evCode P H N pol f round a st) (evCode P H N pol f round b st) := by
 conv => lhs; unfold evCode
 unfold bK
 rfl
theorem ev_block (id : Nat) (c : Code) (st : St) : evCode P H N pol f round (.block id c) st = blkK (pol.out f id) id (evCode P H N pol f round c st) := by
 conv => lhs; unfold evCode
 unfold blkK
 rfl
theorem ev_exit (id : Nat) (st : St) : evCode P H N pol f round (.exit id) st = some (.exit id, st) := (rfl)
theorem ev_goto (id : Nat) (st : St) : evCode P H N pol f round (.goto id) st = some (.goto id, st) := (rfl)
theorem ev_ret (st : St) : evCode P H N pol f round .ret st = some (.ret, st) := (rfl)
theorem frzSt_nil (st : St) : frzSt st [] = st := (rfl)
theorem proSt_nil (st : St) : proSt st [] = st := (rfl)
def proK (st : St) (t : Nat) : AV → St
 | .box cs => { st with env := st.env.set t (.ptr st.S.next 0), S := st.S.new (.cells cs) }
 | _ => st
theorem proSt_cons (st : St) (t : Nat) (ts : List Nat) : proSt st (t :: ts) = proSt (proK st t (st.env.getD t .undef)) ts := by
 show proSt (proOne st t) ts = _
 unfold proOne proK
 cases st.env.getD t .undef <;> rfl
theorem proK_box (st : St) (t : Nat) (cs : List AV) : proK st t (.box cs) = { st with env := st.env.set t (.ptr st.S.next 0), S := st.S.new (.cells cs) } := (rfl)
theorem proK_ptr (st : St) (t i o : Nat) : proK st t (.ptr i o) = st := (rfl)
theorem ev_region (id : Nat) (ops : Array Oper) (st : St) : evCode P H N pol f round (.region id ops false) st = evOps P H pol f ops (ops.toList.filterMap isPlaceOp) (List.range ops.size) (proSt (frzSt st (pol.fzr f id)) (pol.pro f id)) := by
 conv => lhs; unfold evCode
 rfl
theorem ev_loop (c : Code) (st : St) : evCode P H N pol f round (.loop c) st = loopN (pol.keep f) (evCode P H N pol f round c) N st := by
 conv => lhs; unfold evCode
theorem ev_draw (id : Nat) (ops : Array Oper) (st : St) : evCode P H N pol f round (.region id ops true) st = evDraw P H pol f id ops (proSt (frzSt st (pol.fzr f id)) (pol.pro f id)) := by
 conv => lhs; unfold evCode
 rfl
def wantedK {α : Type} (ops : Array Oper) (o : Oper) (env : List AV) (x y : Option α) : Option α := match wantedA ops o env with | none => none | some true => x | some false => y
theorem wantedK_none {α : Type} {d : Option Tmp} {op : Op} {ty : TypeId} {po : String} {af : Array Edge} (env : List AV) (x y : Option α) : wantedK ops ⟨d, op, ty, po, af, none⟩ env x y = x := (rfl)
theorem wantedK_some {α : Type} {d : Option Tmp} {op : Op} {ty : TypeId} {po : String} {af : Array Edge} {j : Nat} {w : Bool} (env : List AV) (x y : Option α) :
  wantedK ops ⟨d, op, ty, po, af, some (j, w)⟩ env x y = match (ops[j]?).bind (·.dst) with | some t => gK (env.getD t .undef) w x y | none => y := by
 show (match (match (ops[j]?).bind (·.dst) with
  | some d => (match env.getD d .undef with
   | .bool b => some (b == w)
   | .tup [] => some false
   | _ => none)
  | none => some false) with | none => none | some true => x | some false => y) = _
 unfold gK
 cases (ops[j]?).bind (·.dst) with
 | none => rfl
 | some t =>
  show (match (match env.getD t .undef with
   | .bool b => some (b == w)
   | .tup [] => some false
   | _ => none) with | none => none | some true => x | some false => y) = _
  simp only
  generalize env.getD t .undef = v
  cases v <;> try rfl
  case bool b => cases b <;> cases w <;> rfl
  case tup vs => cases vs <;> rfl
theorem evOps_nil (st : St) : evOps P H pol f ops pl [] st = some (.normal, { st with env := wipe st.env pl }) := (rfl)
theorem evOps_cons (i : Nat) (rest : List Nat) (st : St) : evOps P H pol f ops pl (i :: rest) st = oB (ops[i]?) fun o => wantedK ops o st.env
   (oB (opA P pol f pl o st) fun r => rK H r fun v st' => evOps P H pol f ops pl rest (st'.puts o.dst (leftA o v)))
   (evOps P H pol f ops pl rest (st.puts o.dst .undef)) := by
 conv => lhs; unfold evOps
 unfold oB wantedK rK
 simp only [opK_eq]
 cases ops[i]? with
 | none => rfl
 | some o =>
  simp only
  cases wantedA ops o st.env with
  | none => rfl
  | some w =>
   cases w with
   | false => rfl
   | true =>
    simp only
    cases opA P pol f pl o st with
    | none => rfl
    | some r =>
     cases r with
     | val v st' => rfl
     | pan ch st' => rfl
     | call t as st' =>
      simp only
      cases H.call t as st'.S with
      | none => rfl
      | some eS => obtain ⟨e, S'⟩ := eS; cases e <;> rfl
def clK {α : Type} (b : Bool) (x y : α) : α := if b then x else y
@[congr] theorem clK_congr {α : Type} {b b' : Bool} {x y : α} (h : b = b') : clK b x y = clK b' x y := by rw [h]
theorem clK_false {α : Type} (x y : α) : clK false x y = y := (rfl)
theorem clK_true {α : Type} (x y : α) : clK true x y = x := (rfl)
section ops
variable {d : Option Tmp} {ty : TypeId} {po : String} {af : Array Edge} {g : Option (Nat × Bool)} {st : St}
def pureK (st : St) (v : Option AV) : Option OR := v.map fun v => .val v st
theorem opA_move {t : Tmp} {x : Operand} : opA P pol f pl ⟨some t, .move x, ty, po, af, g⟩ st = bif pol.take f t then some (.val (opt st.env x) { st with env := stripAt st.env (tmpsOf [x]) }) else some (.val (opd st.env x) st) := by
 unfold opA
 simp only [isPure, if_true, pureA, consumed]
 cases pol.take f t <;> rfl
theorem opA_assign {x : Operand} : opA P pol f pl ⟨d, .assign x, ty, po, af, g⟩ st = some (.val (opt st.env x) { st with env := stripAt st.env (tmpsOf [x]) }) := (rfl)
theorem opA_pick {c a b : Operand} : opA P pol f pl ⟨d, .pick c a b, ty, po, af, g⟩ st = bK (opd st.env c) (some (.val (opd st.env a) st)) (some (.val (opd st.env b) st)) := by
 unfold opA
 simp only [isPure, if_true, pureA, consumed, stripAt, bK]
 cases opd st.env c <;> try rfl
 rename_i b; cases b <;> rfl
theorem opA_build {t : TypeId} {ps : Array (Nat × Operand)} : opA P pol f pl ⟨d, .build t ps, ty, po, af, g⟩ st = (match ps.toList with
  | [(i, x)] => oB (buildA P t [(i, opt st.env x)]) fun v => some (.val v { st with env := stripAt st.env (tmpsOf [x]) })
  | l => oB (buildA P t (l.map fun p => (p.1, opd st.env p.2))) fun v => some (.val v st)) := by
 unfold opA
 simp only [isPure, if_true, pureA, consumed]
 split
 ·rename_i i x h
  simp only [h]
  cases buildA P t [(i, opt st.env x)] <;> rfl
 ·rename_i h
  split
  ·rename_i i x h'; exact absurd h' (h i x)
  ·simp only [stripAt]
   cases buildA P t (ps.toList.map fun p => (p.1, opd st.env p.2)) <;> rfl
def placeOf : AV → Option AV
 | .ptr id off => some (.ptr id off)
 | .lptr s off => some (.lptr s off)
 | .fptr cs => some (.fptr cs)
 | .aptr id r off => some (.aptr id r off)
 | .fn (.func g) a b => some (.fn (.func g) a b)
 | .yld id => some (.yld id)
 | _ => none
theorem opA_nilCheck {x : Operand} : opA P pol f pl ⟨d, .nilCheck x, ty, po, af, g⟩ st = oB (placeOf (adr st.env x)) fun v => some (.val v st) := by
 unfold opA
 simp only [isPure, if_true, pureA, consumed, stripAt]
 unfold placeOf
 cases adr st.env x <;> try rfl
 rename_i fn a b; cases fn <;> rfl
theorem opA_binOp {op : BinOp} {t yt : TypeId} {x y : Operand} : opA P pol f pl ⟨d, .binOp op t x y yt, ty, po, af, g⟩ st = oB (binA P op t ((x matches .const _) || (y matches .const _)) (opd st.env x) (opd st.env y)) fun v => some (.val v st) := by
 unfold opA
 simp only [isPure, if_true, pureA, consumed, stripAt, oB]
 generalize binA P op t _ (opd st.env x) (opd st.env y) = r
 cases r <;> rfl
theorem opA_unOp {op : UnOp} {t : TypeId} {x : Operand} : opA P pol f pl ⟨d, .unOp op t x, ty, po, af, g⟩ st = oB (unA op (opd st.env x)) fun v => some (.val v st) := by
 unfold opA
 simp only [isPure, if_true, pureA, consumed, stripAt, oB]
 cases unA op (opd st.env x) <;> rfl
def ifaceK (P : Program) (t : TypeId) (v : AV) (st : St) : Option OR := match P.underlying t with
 | some (.interface _) => none
 | some _ => some (.val (.iface t v) st)
 | none => none
theorem opA_makeInterface {t : TypeId} {x : Operand} : opA P pol f pl ⟨d, .makeInterface t x, ty, po, af, g⟩ st = ifaceK P t (opd st.env x) st := by
 unfold opA
 simp only [isPure, if_true, pureA, consumed, stripAt, ifaceK]
 cases P.underlying t with
 | none => rfl
 | some dd => cases dd <;> rfl
theorem opA_makeFunc {gf : FuncId} {first cap : Array Operand} : opA P pol f pl ⟨d, .makeFunc (.func gf) first cap, ty, po, af, g⟩ st = some (.val (.fn (.func gf) (first.toList.map (opd st.env)) (cap.toList.map (opd st.env))) st) := (rfl)
theorem opA_slice {t' : Tmp} {t : TypeId} {x : Operand} {lo hi mx : Option Operand} : opA P pol f pl ⟨some t', .slice t x lo hi mx, ty, po, af, g⟩ st =
  clK (pol.arr f t' == 3) (sliceF P t (adr st.env x) lo hi mx { st with env := stripAt st.env (tmpsOf [x]) }) (oB (sliceA P t (opt st.env x) (lo.map (opd st.env)) (hi.map (opd st.env)) (mx.map (opd st.env))) fun v => some (.val v { st with env := stripAt st.env (tmpsOf [x]) })) := by
 unfold opA
 simp only [frzSl, pureA, consumed, oB, clK]
 cases sliceA P t (opt st.env x) (lo.map (opd st.env)) (hi.map (opd st.env)) (mx.map (opd st.env)) <;> rfl
theorem opA_fieldAddr {s : TypeId} {x : Operand} {i : Nat} : opA P pol f pl ⟨d, .fieldAddr s x i, ty, po, af, g⟩ st = oB (fieldAddrA P s (adr st.env x) i) fun v => some (.val v st) := by
 unfold opA
 simp only [isPure, if_true, pureA, consumed, stripAt, oB]
 cases fieldAddrA P s (adr st.env x) i <;> rfl
theorem opA_field {t : TypeId} {x : Operand} {i : Nat} : opA P pol f pl ⟨d, .field t x i, ty, po, af, g⟩ st = oB (fieldA P t (opd st.env x) i) fun v => some (.val v st) := by
 unfold opA
 simp only [isPure, if_true, pureA, consumed, stripAt, oB]
 cases fieldA P t (opd st.env x) i <;> rfl
theorem opA_indexAddr {t : TypeId} {x i : Operand} : opA P pol f pl ⟨d, .indexAddr t x i, ty, po, af, g⟩ st = oB (indexAddrA P t (adr st.env x) (opd st.env i)) fun v => some (.val v st) := by
 unfold opA
 simp only [isPure, if_true, pureA, consumed, stripAt, oB]
 cases indexAddrA P t (adr st.env x) (opd st.env i) <;> rfl
theorem opA_index {t : TypeId} {x i : Operand} : opA P pol f pl ⟨d, .index t x i, ty, po, af, g⟩ st = oB (indexA P t (opd st.env x) (opd st.env i)) fun v => some (.val v st) := by
 unfold opA
 simp only [isPure, if_true, pureA, consumed, stripAt, oB]
 cases indexA P t (opd st.env x) (opd st.env i) <;> rfl
theorem opA_typeAssert {x : Operand} {xt t : TypeId} {ok : Bool} : opA P pol f pl ⟨d, .typeAssert x xt t ok, ty, po, af, g⟩ st = oB (assertA P (opd st.env x) t ok) fun v => some (.val v st) := by
 unfold opA
 simp only [isPure, if_true, pureA, consumed, stripAt, oB]
 cases assertA P (opd st.env x) t ok <;> rfl
def extK (v : AV) (i : Nat) : Option AV := match v with | .tup vs => vs[i]? | _ => none
theorem opA_extract {x : Operand} {i : Nat} : opA P pol f pl ⟨d, .extract x i, ty, po, af, g⟩ st = oB (extK (opd st.env x) i) fun v => some (.val v st) := by
 unfold opA
 simp only [isPure, if_true, pureA, consumed, stripAt, oB]
 unfold extK
 cases opd st.env x <;> try rfl
 rename_i vs; simp only; cases vs[i]? <;> rfl
theorem opA_min {args : Array Operand} {ts : Array TypeId} : opA P pol f pl ⟨d, .call { callee := .builtin .min, args := args, argTypes := ts }, ty, po, af, g⟩ st = oB (foldA min2 (args.toList.map (opd st.env))) fun v => some (.val v st) := by
 unfold opA
 simp only [isPure, if_true, pureA, consumed, stripAt, oB]
 cases foldA min2 (args.toList.map (opd st.env)) <;> rfl
theorem opA_max {args : Array Operand} {ts : Array TypeId} : opA P pol f pl ⟨d, .call { callee := .builtin .max, args := args, argTypes := ts }, ty, po, af, g⟩ st = oB (foldA max2 (args.toList.map (opd st.env))) fun v => some (.val v st) := by
 unfold opA
 simp only [isPure, if_true, pureA, consumed, stripAt, oB]
 cases foldA max2 (args.toList.map (opd st.env)) <;> rfl
theorem opA_alloc {t : TypeId} : opA P pol f pl ⟨d, .alloc t, ty, po, af, g⟩ st = oB (zeroA P t) fun z => newVarA pol f pl d z.cells st := by
 unfold opA
 simp only [consumed, stripAt, oB]
 cases zeroA P t <;> rfl
theorem opA_box {t : TypeId} {x : Operand} : opA P pol f pl ⟨d, .box t x, ty, po, af, g⟩ st =
  if okTop (opt st.env x) = true ∧ (opt st.env x).cells.length = P.cellsOf t then newVarA pol f pl d (opt st.env x).cells { st with env := stripAt st.env (tmpsOf [x]) } else none := (rfl)
theorem opA_load {t : TypeId} {a : Operand} : opA P pol f pl ⟨d, .load t a, ty, po, af, g⟩ st = loadS P pol f d t (adr st.env a) st := (rfl)
theorem opA_store {t : TypeId} {a x : Operand} : opA P pol f pl ⟨d, .store t a x, ty, po, af, g⟩ st = storeS P t (adr st.env a) (opt st.env x) { st with env := stripAt st.env (tmpsOf [x]) } := (rfl)
theorem opA_len {a : Operand} {t : TypeId} : opA P pol f pl ⟨d, .call { callee := .builtin .len, args := #[a], argTypes := #[t] }, ty, po, af, g⟩ st = oB (lenA P st.S t (opd st.env a)) fun v => some (.val v st) := by
 unfold opA
 simp only [consumed, stripAt, oB]
 cases lenA P st.S t (opd st.env a) <;> rfl
theorem opA_recover {args : Array Operand} {ts : Array TypeId} : opA P pol f pl ⟨d, .call { callee := .builtin .recover, args := args, argTypes := ts }, ty, po, af, g⟩ st = oB (recoverA st) fun r => some (.val r.1 r.2) := by
 unfold opA
 simp only [consumed, stripAt, oB]
 cases recoverA st <;> rfl
theorem isCl_tmp (t : Tmp) : isCl pol (.tmp t) = false := (rfl)
theorem isCl_const (v : Value) : isCl pol (.const v) = false := (rfl)
theorem isCl_func (g : FuncId) : isCl pol (.func g) = pol.clone g := (rfl)
theorem opA_callv {x : Operand} {args : Array Operand} {ts : Array TypeId} : opA P pol f pl ⟨d, .call { callee := .value x, args := args, argTypes := ts }, ty, po, af, g⟩ st =
  clK (isCl pol x) (cloneA P x (args.toList.map (opd st.env)) { st with env := stripAt st.env (tmpsOf args.toList) }) (oB (calleeA (argsA st.env args.toList) (opd st.env x)) fun r => some (.call r.1 r.2 { st with env := stripAt st.env (tmpsOf args.toList) })) := by
 unfold opA
 simp only [consumed, oB, clK]
 cases calleeA (argsA st.env args.toList) (opd st.env x) <;> rfl
theorem opA_invoke {r : Operand} {m : String} {args : Array Operand} {ts : Array TypeId} : opA P pol f pl ⟨d, .call { callee := .invoke r m, args := args, argTypes := ts }, ty, po, af, g⟩ st =
  oB (invA P m (args.toList.map (opd st.env)) (opd st.env r)) fun q => some (.call q.1 q.2 st) := by
 unfold opA
 simp only [consumed, stripAt, oB]
 cases invA P m (args.toList.map (opd st.env)) (opd st.env r) <;> rfl
theorem opA_copy {a b : Operand} {t u : TypeId} : opA P pol f pl ⟨d, .call { callee := .builtin .copy, args := #[a, b], argTypes := #[t, u] }, ty, po, af, g⟩ st = copyS P t (opd st.env a) (opd st.env b) st := (rfl)
theorem opA_defer {x : Operand} {args : Array Operand} {ts : Array TypeId} : opA P pol f pl ⟨d, .defer { callee := .value x, args := args, argTypes := ts }, ty, po, af, g⟩ st =
  oB (deferA st (opd st.env x) (args.toList.map (opd st.env))) fun st' => some (.val .undef st') := by
 unfold opA
 simp only [consumed, stripAt, oB]
 cases deferA st (opd st.env x) (args.toList.map (opd st.env)) <;> rfl
def panK (v : AV) (st : St) : Option OR := match v with | .iface t v => some (.pan [⟨.iface t v, false⟩] st) | _ => none
theorem opA_panic {x : Operand} : opA P pol f pl ⟨d, .panic x, ty, po, af, g⟩ st = panK (opd st.env x) st := by
 unfold opA
 simp only [consumed, stripAt, panK]
 cases opd st.env x <;> rfl
theorem opA_append {t : Tmp} {a b : Operand} {s x : TypeId} : opA P pol f pl ⟨some t, .call { callee := .builtin .append, args := #[a, b], argTypes := #[s, x] }, ty, po, af, g⟩ st =
  appendS P (pol.arr f t) s x (opt st.env a) (opd st.env b) { st with env := stripAt st.env (tmpsOf [a]) } := (rfl)
def arrK (how : Nat) (v : AV) (st : St) : Option OR := if how = 2 then asArr v st else some (.val v st)
theorem opA_makeSlice {t : Tmp} {s : TypeId} {l c : Operand} : opA P pol f pl ⟨some t, .makeSlice s l c, ty, po, af, g⟩ st = oB (makeSliceA P s (opd st.env l) (opd st.env c)) fun v => arrK (pol.arr f t) v st := by
 unfold opA
 simp only [consumed, stripAt, oB]
 cases makeSliceA P s (opd st.env l) (opd st.env c) <;> rfl
theorem opA_buildSlice {t : Tmp} {s : TypeId} {n : Nat} {ps : Array (Nat × Operand)} : opA P pol f pl ⟨some t, .buildSlice s n ps, ty, po, af, g⟩ st = oB (buildSliceA P s n (ps.toList.map fun p => (p.1, opd st.env p.2))) fun v => arrK (pol.arr f t) v st := by
 unfold opA
 simp only [consumed, stripAt, oB]
 cases buildSliceA P s n (ps.toList.map fun p => (p.1, opd st.env p.2)) <;> rfl
theorem opA_convert {t : Tmp} {src dst : TypeId} {x : Operand} : opA P pol f pl ⟨some t, .convert src dst x, ty, po, af, g⟩ st = (match convA P src dst (opt st.env x) with
  | some v => some (.val v { st with env := stripAt st.env (tmpsOf [x]) })
  | none => if pol.arr f t = 0 then none
    else match P.underlying src, P.underlying dst, opd st.env x with
     | some (.slice e), some .string, .rsl id es off len => match P.underlying e with
      | some (.int .u8) => match rowsIn st.S 1 (.rsl id es off len) with
       | some rows => (bytesOf? rows).map fun b => .val (.str b) { st with env := stripAt st.env (tmpsOf [x]) }
       | none => none
      | _ => none
     | _, _, _ => none) := (rfl)
end ops
def getT : List AV → Nat → AV
 | [], _ => .undef
 | v :: _, 0 => v
 | _ :: vs, n + 1 => getT vs n
def setT : List AV → Nat → AV → List AV
 | [], _, _ => []
 | _ :: vs, 0, w => w :: vs
 | v :: vs, n + 1, w => v :: setT vs n w
theorem getT_eq : ∀ (l : List AV) (t : Nat), l.getD t .undef = getT l t
 | [], _ => rfl
 | _ :: _, 0 => rfl
 | _ :: vs, n + 1 => by simp only [getT]; rw [← getT_eq vs n]; rfl
theorem setT_eq : ∀ (l : List AV) (t : Nat) (w : AV), l.set t w = setT l t w
 | [], _, _ => rfl
 | _ :: _, 0, _ => rfl
 | v :: vs, n + 1, w => by simp only [setT, List.set_cons_succ]; rw [setT_eq vs n]
theorem getT_zero (v : AV) (vs : List AV) : getT (v :: vs) 0 = v := (rfl)
theorem getT_succ (v : AV) (vs : List AV) (n : Nat) : getT (v :: vs) (n + 1) = getT vs n := (rfl)
theorem setT_zero (v w : AV) (vs : List AV) : setT (v :: vs) 0 w = w :: vs := (rfl)
theorem setT_succ (v w : AV) (vs : List AV) (n : Nat) : setT (v :: vs) (n + 1) w = v :: setT vs n w := (rfl)
theorem opd_tmp (env : List AV) (t : Nat) : opd env (.tmp t) = (getT env t).strip := by simp only [opd, getT_eq]
theorem opd_const (env : List AV) (v : Value) : opd env (.const v) = AV.ofConst v := (rfl)
theorem opd_func (env : List AV) (g : FuncId) : opd env (.func g) = .fn (.func g) [] [] := (rfl)
theorem opt_tmp (env : List AV) (t : Nat) : opt env (.tmp t) = (getT env t).clr := by simp only [opt, getT_eq]
theorem opt_const (env : List AV) (v : Value) : opt env (.const v) = AV.ofConst v := (rfl)
theorem opt_func (env : List AV) (g : FuncId) : opt env (.func g) = .fn (.func g) [] [] := (rfl)
def adrOf (t : Nat) : AV → AV
 | .box _ => .lptr t 0
 | v => v
theorem adrT_tmp (env : List AV) (t : Nat) : adr env (.tmp t) = adrOf t (getT env t) := by
 simp only [adr, getT_eq]
 cases getT env t <;> rfl
theorem adr_const (env : List AV) (v : Value) : adr env (.const v) = .unk := (rfl)
theorem stripAt_nil (env : List AV) : stripAt env [] = env := (rfl)
theorem stripAt_cons (env : List AV) (t : Tmp) (ts : List Tmp) : stripAt env (t :: ts) = stripAt (setT env t (getT env t).strip) ts := by simp only [stripAt, getT_eq, setT_eq]
theorem wipe_nil (env : List AV) : wipe env [] = env := (rfl)
theorem wipe_cons (env : List AV) (t : Tmp) (ts : List Tmp) : wipe env (t :: ts) = wipe (setT env t .unk) ts := by simp only [wipe, setT_eq]
theorem puts_some (st : St) (t : Tmp) (v : AV) : st.puts (some t) v = { st with env := setT st.env t v } := by simp only [St.puts, setT_eq]
theorem puts_none (st : St) (v : AV) : st.puts none v = st := (rfl)
theorem tmpsOf_nil : tmpsOf [] = [] := (rfl)
theorem tmpsOf_tmp (t : Tmp) (xs : List Operand) : tmpsOf (.tmp t :: xs) = t :: tmpsOf xs := (rfl)
theorem tmpsOf_const (v : Value) (xs : List Operand) : tmpsOf (.const v :: xs) = tmpsOf xs := (rfl)
theorem tmpsOf_func (g : FuncId) (xs : List Operand) : tmpsOf (.func g :: xs) = tmpsOf xs := (rfl)
def dstAt : List Oper → Nat → Option Tmp
 | [], _ => none
 | o :: _, 0 => o.dst
 | _ :: r, n + 1 => dstAt r n
def opAt : List Oper → Nat → Option Oper
 | [], _ => none
 | o :: _, 0 => some o
 | _ :: r, n + 1 => opAt r n
theorem opAt_eq : ∀ (l : List Oper) (j : Nat), l[j]? = opAt l j
 | [], _ => rfl
 | _ :: _, 0 => rfl
 | _ :: r, n + 1 => by simp only [opAt, List.getElem?_cons_succ]; exact opAt_eq r n
theorem dstAt_eq : ∀ (l : List Oper) (j : Nat), (l[j]?).bind (·.dst) = dstAt l j
 | [], _ => rfl
 | _ :: _, 0 => rfl
 | _ :: r, n + 1 => by simp only [dstAt, List.getElem?_cons_succ]; exact dstAt_eq r n
theorem dstAt_zero (o : Oper) (r : List Oper) : dstAt (o :: r) 0 = o.dst := (rfl)
theorem dstAt_succ (o : Oper) (r : List Oper) (n : Nat) : dstAt (o :: r) (n + 1) = dstAt r n := (rfl)
theorem opAt_zero (o : Oper) (r : List Oper) : opAt (o :: r) 0 = some o := (rfl)
theorem opAt_succ (o : Oper) (r : List Oper) (n : Nat) : opAt (o :: r) (n + 1) = opAt r n := (rfl)
def gT {α : Type} (env : List AV) (t : Option Tmp) (w : Bool) (x y : Option α) : Option α := match t with | some t => gK (getT env t) w x y | none => y
@[congr] theorem gT_congr {α : Type} {env : List AV} {t t' : Option Tmp} {w : Bool} {x y : Option α} (h : t = t') : gT env t w x y = gT env t' w x y := by rw [h]
theorem gT_some {α : Type} (env : List AV) (t : Tmp) (w : Bool) (x y : Option α) : gT env (some t) w x y = gK (getT env t) w x y := (rfl)
def wantedL {α : Type} (all : List Oper) (o : Oper) (env : List AV) (x y : Option α) : Option α := match o.guard with | none => x | some (j, w) => gT env (dstAt all j) w x y
@[congr] theorem wantedL_congr {α : Type} {all : List Oper} {o o' : Oper} {env : List AV} {x y : Option α} (h : o = o') : wantedL all o env x y = wantedL all o' env x y := by rw [h]
theorem wantedL_none {α : Type} {all : List Oper} {d : Option Tmp} {op : Op} {ty : TypeId} {po : String} {af : Array Edge} (env : List AV) (x y : Option α) : wantedL all ⟨d, op, ty, po, af, none⟩ env x y = x := (rfl)
theorem wantedL_some {α : Type} {all : List Oper} {d : Option Tmp} {op : Op} {ty : TypeId} {po : String} {af : Array Edge} {j : Nat} {w : Bool} (env : List AV) (x y : Option α) : wantedL all ⟨d, op, ty, po, af, some (j, w)⟩ env x y = gT env (dstAt all j) w x y := (rfl)
theorem wantedL_eq {α : Type} (o : Oper) (env : List AV) (x y : Option α) : wantedK ops o env x y = wantedL ops.toList o env x y := by
 obtain ⟨d, op, ty, po, af, g⟩ := o
 cases g with
 | none => rfl
 | some jw =>
  obtain ⟨j, w⟩ := jw
  rw [wantedK_some, wantedL_some]
  have : (ops[j]?).bind (·.dst) = dstAt ops.toList j := by rw [← dstAt_eq]; simp
  rw [this]
  unfold gT
  cases dstAt ops.toList j with
  | none => rfl
  | some t => simp only [getT_eq]
def evL (P : Program) (H : Handler) (pol : Pol) (f : FuncId) (all : List Oper) (pl : List Tmp) : List Oper → St → Option (AExit × St)
 | [], st => some (.normal, { st with env := wipe st.env pl })
 | o :: rest, st => wantedL all o st.env
   (oB (opA P pol f pl o st) fun r => rK H r fun v st' => evL P H pol f all pl rest (st'.puts o.dst (leftA o v)))
   (evL P H pol f all pl rest (st.puts o.dst .undef))
theorem evL_nil {all : List Oper} (st : St) : evL P H pol f all pl [] st = some (.normal, { st with env := wipe st.env pl }) := (rfl)
theorem evL_cons {all : List Oper} (o : Oper) (rest : List Oper) (st : St) : evL P H pol f all pl (o :: rest) st = wantedL all o st.env
   (oB (opA P pol f pl o st) fun r => rK H r fun v st' => evL P H pol f all pl rest (st'.puts o.dst (leftA o v)))
   (evL P H pol f all pl rest (st.puts o.dst .undef)) := (rfl)
theorem evOps_evL : ∀ (n : Nat) (st : St), n ≤ ops.size → evOps P H pol f ops pl (List.range' (ops.size - n) n) st = evL P H pol f ops.toList pl (ops.toList.drop (ops.size - n)) st
 | 0, st, _ => by
  have : ops.toList.drop (ops.size - 0) = [] := by simp
  rw [this]; rfl
 | n + 1, st, h => by
  have hlt : ops.size - (n + 1) < ops.toList.length := by simp; omega
  rw [List.drop_eq_getElem_cons hlt, List.range'_succ]
  have e1 : ops.size - (n + 1) + 1 = ops.size - n := by omega
  rw [e1, evOps_cons, evL_cons]
  have hop : ops[ops.size - (n + 1)]? = some ops.toList[ops.size - (n + 1)] := by
   rw [← Array.getElem?_toList, List.getElem?_eq_getElem hlt]
  rw [hop, oB_some, wantedL_eq]
  have ih := fun st => evOps_evL n st (by omega)
  simp only [ih]
theorem evOps_all (st : St) : evOps P H pol f ops pl (List.range ops.size) st = evL P H pol f ops.toList pl ops.toList st := by
 have := evOps_evL (P := P) (H := H) (pol := pol) (f := f) (ops := ops) (pl := pl) ops.size st (Nat.le_refl _)
 simpa [List.range_eq_range'] using this
def consO (o : Option Tmp) (l : List Tmp) : List Tmp := match o with | none => l | some t => t :: l
theorem consO_none (l : List Tmp) : consO none l = l := (rfl)
theorem consO_some (t : Tmp) (l : List Tmp) : consO (some t) l = t :: l := (rfl)
def plL : List Oper → List Tmp
 | [] => []
 | o :: r => consO (isPlaceOp o) (plL r)
theorem plL_nil : plL [] = [] := (rfl)
theorem plL_cons (o : Oper) (r : List Oper) : plL (o :: r) = consO (isPlaceOp o) (plL r) := (rfl)
theorem plL_eq : ∀ l : List Oper, l.filterMap isPlaceOp = plL l
 | [] => rfl
 | o :: r => by
  rw [List.filterMap_cons, plL_cons, plL_eq r]
  cases isPlaceOp o <;> rfl
theorem ev_regionL (id : Nat) (l : List Oper) (st : St) : evCode P H N pol f round (.region id l.toArray false) st = evL P H pol f l (plL l) l (proSt (frzSt st (pol.fzr f id)) (pol.pro f id)) := by
 rw [ev_region, evOps_all, plL_eq]
theorem strip0_unk  : AV.strip0 (.unk) = .unk := (rfl)
theorem strip0_bool (b : Bool) : AV.strip0 (.bool b) = .bool b := (rfl)
theorem strip0_int (k : IntKind) (n : Int) : AV.strip0 (.int k n) = .int k n := (rfl)
theorem strip0_str (s : List UInt8) : AV.strip0 (.str s) = .str s := (rfl)
theorem strip0_nilptr  : AV.strip0 (.nilptr) = .nilptr := (rfl)
theorem strip0_ptr (i o : Nat) : AV.strip0 (.ptr i o) = .ptr i o := (rfl)
theorem strip0_fptr (cs : List AV) : AV.strip0 (.fptr cs) = .fptr cs := (rfl)
theorem strip0_box (cs : List AV) : AV.strip0 (.box cs) = .unk := (rfl)
theorem strip0_lptr (s o : Nat) : AV.strip0 (.lptr s o) = .unk := (rfl)
theorem strip0_nilsl  : AV.strip0 (.nilsl) = .nilsl := (rfl)
theorem strip0_sl (w : Bool) (es : Nat) (rs : List (List AV)) : AV.strip0 (.sl w es rs) = .sl false es rs := (rfl)
theorem strip0_rsl (a b c d : Nat) : AV.strip0 (.rsl a b c d) = .rsl a b c d := (rfl)
theorem strip0_aptr (a b c : Nat) : AV.strip0 (.aptr a b c) = .aptr a b c := (rfl)
theorem strip0_nilmap  : AV.strip0 (.nilmap) = .nilmap := (rfl)
theorem strip0_map (i : Nat) : AV.strip0 (.map i) = .map i := (rfl)
theorem strip0_nilfn  : AV.strip0 (.nilfn) = .nilfn := (rfl)
theorem strip0_fn (g : Fn) (a b : List AV) : AV.strip0 (.fn g a b) = .fn g a b := (rfl)
theorem strip0_yld (i : Nat) : AV.strip0 (.yld i) = .yld i := (rfl)
theorem strip0_niliface  : AV.strip0 (.niliface) = .niliface := (rfl)
theorem strip0_iface (t : TypeId) (v : AV) : AV.strip0 (.iface t v) = .iface t v := (rfl)
theorem strip0_agg (cs : List AV) : AV.strip0 (.agg cs) = .unk := (rfl)
theorem strip0_tup (vs : List AV) : AV.strip0 (.tup vs) = .unk := (rfl)
theorem strip1_unk  : AV.strip1 (.unk) = .unk := (rfl)
theorem strip1_bool (b : Bool) : AV.strip1 (.bool b) = .bool b := (rfl)
theorem strip1_int (k : IntKind) (n : Int) : AV.strip1 (.int k n) = .int k n := (rfl)
theorem strip1_str (s : List UInt8) : AV.strip1 (.str s) = .str s := (rfl)
theorem strip1_nilptr  : AV.strip1 (.nilptr) = .nilptr := (rfl)
theorem strip1_ptr (i o : Nat) : AV.strip1 (.ptr i o) = .ptr i o := (rfl)
theorem strip1_fptr (cs : List AV) : AV.strip1 (.fptr cs) = .fptr cs := (rfl)
theorem strip1_box (cs : List AV) : AV.strip1 (.box cs) = .unk := (rfl)
theorem strip1_lptr (s o : Nat) : AV.strip1 (.lptr s o) = .unk := (rfl)
theorem strip1_nilsl  : AV.strip1 (.nilsl) = .nilsl := (rfl)
theorem strip1_sl (w : Bool) (es : Nat) (rs : List (List AV)) : AV.strip1 (.sl w es rs) = .sl false es rs := (rfl)
theorem strip1_rsl (a b c d : Nat) : AV.strip1 (.rsl a b c d) = .rsl a b c d := (rfl)
theorem strip1_aptr (a b c : Nat) : AV.strip1 (.aptr a b c) = .aptr a b c := (rfl)
theorem strip1_nilmap  : AV.strip1 (.nilmap) = .nilmap := (rfl)
theorem strip1_map (i : Nat) : AV.strip1 (.map i) = .map i := (rfl)
theorem strip1_nilfn  : AV.strip1 (.nilfn) = .nilfn := (rfl)
theorem strip1_fn (g : Fn) (a b : List AV) : AV.strip1 (.fn g a b) = .fn g a b := (rfl)
theorem strip1_yld (i : Nat) : AV.strip1 (.yld i) = .yld i := (rfl)
theorem strip1_niliface  : AV.strip1 (.niliface) = .niliface := (rfl)
theorem strip1_iface (t : TypeId) (v : AV) : AV.strip1 (.iface t v) = .iface t v := (rfl)
theorem strip1_agg (cs : List AV) : AV.strip1 (.agg cs) = .agg (cs.map AV.strip0) := (rfl)
theorem strip1_tup (vs : List AV) : AV.strip1 (.tup vs) = .unk := (rfl)
theorem strip_unk  : AV.strip (.unk) = .unk := (rfl)
theorem strip_bool (b : Bool) : AV.strip (.bool b) = .bool b := (rfl)
theorem strip_int (k : IntKind) (n : Int) : AV.strip (.int k n) = .int k n := (rfl)
theorem strip_str (s : List UInt8) : AV.strip (.str s) = .str s := (rfl)
theorem strip_nilptr  : AV.strip (.nilptr) = .nilptr := (rfl)
theorem strip_ptr (i o : Nat) : AV.strip (.ptr i o) = .ptr i o := (rfl)
theorem strip_fptr (cs : List AV) : AV.strip (.fptr cs) = .fptr cs := (rfl)
theorem strip_box (cs : List AV) : AV.strip (.box cs) = .unk := (rfl)
theorem strip_lptr (s o : Nat) : AV.strip (.lptr s o) = .unk := (rfl)
theorem strip_nilsl  : AV.strip (.nilsl) = .nilsl := (rfl)
theorem strip_sl (w : Bool) (es : Nat) (rs : List (List AV)) : AV.strip (.sl w es rs) = .sl false es rs := (rfl)
theorem strip_rsl (a b c d : Nat) : AV.strip (.rsl a b c d) = .rsl a b c d := (rfl)
theorem strip_aptr (a b c : Nat) : AV.strip (.aptr a b c) = .aptr a b c := (rfl)
theorem strip_nilmap  : AV.strip (.nilmap) = .nilmap := (rfl)
theorem strip_map (i : Nat) : AV.strip (.map i) = .map i := (rfl)
theorem strip_nilfn  : AV.strip (.nilfn) = .nilfn := (rfl)
theorem strip_fn (g : Fn) (a b : List AV) : AV.strip (.fn g a b) = .fn g a b := (rfl)
theorem strip_yld (i : Nat) : AV.strip (.yld i) = .yld i := (rfl)
theorem strip_niliface  : AV.strip (.niliface) = .niliface := (rfl)
theorem strip_iface (t : TypeId) (v : AV) : AV.strip (.iface t v) = .iface t v := (rfl)
theorem strip_agg (cs : List AV) : AV.strip (.agg cs) = .agg (cs.map AV.strip0) := (rfl)
theorem strip_tup (vs : List AV) : AV.strip (.tup vs) = .tup (vs.map AV.strip1) := (rfl)
theorem strip_undef : AV.strip .undef = .undef := (rfl)
theorem clr_unk  : AV.clr (.unk) = .unk := (rfl)
theorem clr_bool (b : Bool) : AV.clr (.bool b) = .bool b := (rfl)
theorem clr_int (k : IntKind) (n : Int) : AV.clr (.int k n) = .int k n := (rfl)
theorem clr_str (s : List UInt8) : AV.clr (.str s) = .str s := (rfl)
theorem clr_nilptr  : AV.clr (.nilptr) = .nilptr := (rfl)
theorem clr_ptr (i o : Nat) : AV.clr (.ptr i o) = .ptr i o := (rfl)
theorem clr_fptr (cs : List AV) : AV.clr (.fptr cs) = .fptr cs := (rfl)
theorem clr_box (cs : List AV) : AV.clr (.box cs) = .unk := (rfl)
theorem clr_lptr (s o : Nat) : AV.clr (.lptr s o) = .unk := (rfl)
theorem clr_nilsl  : AV.clr (.nilsl) = .nilsl := (rfl)
theorem clr_sl (w : Bool) (es : Nat) (rs : List (List AV)) : AV.clr (.sl w es rs) = .sl w es rs := (rfl)
theorem clr_rsl (a b c d : Nat) : AV.clr (.rsl a b c d) = .rsl a b c d := (rfl)
theorem clr_aptr (a b c : Nat) : AV.clr (.aptr a b c) = .aptr a b c := (rfl)
theorem clr_nilmap  : AV.clr (.nilmap) = .nilmap := (rfl)
theorem clr_map (i : Nat) : AV.clr (.map i) = .map i := (rfl)
theorem clr_nilfn  : AV.clr (.nilfn) = .nilfn := (rfl)
theorem clr_fn (g : Fn) (a b : List AV) : AV.clr (.fn g a b) = .fn g a b := (rfl)
theorem clr_yld (i : Nat) : AV.clr (.yld i) = .yld i := (rfl)
theorem clr_niliface  : AV.clr (.niliface) = .niliface := (rfl)
theorem clr_iface (t : TypeId) (v : AV) : AV.clr (.iface t v) = .iface t v := (rfl)
theorem clr_agg (cs : List AV) : AV.clr (.agg cs) = .agg cs := (rfl)
theorem clr_tup (vs : List AV) : AV.clr (.tup vs) = .tup vs := (rfl)
theorem clr_undef : AV.clr .undef = .undef := (rfl)
theorem noLp_unk  : AV.noLp (.unk) = .unk := (rfl)
theorem noLp_bool (b : Bool) : AV.noLp (.bool b) = .bool b := (rfl)
theorem noLp_int (k : IntKind) (n : Int) : AV.noLp (.int k n) = .int k n := (rfl)
theorem noLp_str (s : List UInt8) : AV.noLp (.str s) = .str s := (rfl)
theorem noLp_nilptr  : AV.noLp (.nilptr) = .nilptr := (rfl)
theorem noLp_ptr (i o : Nat) : AV.noLp (.ptr i o) = .ptr i o := (rfl)
theorem noLp_fptr (cs : List AV) : AV.noLp (.fptr cs) = .fptr cs := (rfl)
theorem noLp_box (cs : List AV) : AV.noLp (.box cs) = .box cs := (rfl)
theorem noLp_lptr (s o : Nat) : AV.noLp (.lptr s o) = .unk := (rfl)
theorem noLp_nilsl  : AV.noLp (.nilsl) = .nilsl := (rfl)
theorem noLp_sl (w : Bool) (es : Nat) (rs : List (List AV)) : AV.noLp (.sl w es rs) = .sl w es rs := (rfl)
theorem noLp_rsl (a b c d : Nat) : AV.noLp (.rsl a b c d) = .rsl a b c d := (rfl)
theorem noLp_aptr (a b c : Nat) : AV.noLp (.aptr a b c) = .aptr a b c := (rfl)
theorem noLp_nilmap  : AV.noLp (.nilmap) = .nilmap := (rfl)
theorem noLp_map (i : Nat) : AV.noLp (.map i) = .map i := (rfl)
theorem noLp_nilfn  : AV.noLp (.nilfn) = .nilfn := (rfl)
theorem noLp_fn (g : Fn) (a b : List AV) : AV.noLp (.fn g a b) = .fn g a b := (rfl)
theorem noLp_yld (i : Nat) : AV.noLp (.yld i) = .yld i := (rfl)
theorem noLp_niliface  : AV.noLp (.niliface) = .niliface := (rfl)
theorem noLp_iface (t : TypeId) (v : AV) : AV.noLp (.iface t v) = .iface t v := (rfl)
theorem noLp_agg (cs : List AV) : AV.noLp (.agg cs) = .agg cs := (rfl)
theorem noLp_tup (vs : List AV) : AV.noLp (.tup vs) = .tup vs := (rfl)
theorem noLp_undef : AV.noLp .undef = .undef := (rfl)
theorem cells_unk  : AV.cells (.unk) = [.unk] := (rfl)
theorem okTop_unk  : okTop (.unk) = false := (rfl)
theorem adrOf_unk (t_ : Nat)  : adrOf t_ (.unk) = .unk := (rfl)
theorem cells_bool (b : Bool) : AV.cells (.bool b) = [.bool b] := (rfl)
theorem okTop_bool (b : Bool) : okTop (.bool b) = true := (rfl)
theorem adrOf_bool (t_ : Nat) (b : Bool) : adrOf t_ (.bool b) = .bool b := (rfl)
theorem cells_int (k : IntKind) (n : Int) : AV.cells (.int k n) = [.int k n] := (rfl)
theorem okTop_int (k : IntKind) (n : Int) : okTop (.int k n) = true := (rfl)
theorem adrOf_int (t_ : Nat) (k : IntKind) (n : Int) : adrOf t_ (.int k n) = .int k n := (rfl)
theorem cells_str (s : List UInt8) : AV.cells (.str s) = [.str s] := (rfl)
theorem okTop_str (s : List UInt8) : okTop (.str s) = true := (rfl)
theorem adrOf_str (t_ : Nat) (s : List UInt8) : adrOf t_ (.str s) = .str s := (rfl)
theorem cells_nilptr  : AV.cells (.nilptr) = [.nilptr] := (rfl)
theorem okTop_nilptr  : okTop (.nilptr) = true := (rfl)
theorem adrOf_nilptr (t_ : Nat)  : adrOf t_ (.nilptr) = .nilptr := (rfl)
theorem cells_ptr (i o : Nat) : AV.cells (.ptr i o) = [.ptr i o] := (rfl)
theorem okTop_ptr (i o : Nat) : okTop (.ptr i o) = true := (rfl)
theorem adrOf_ptr (t_ : Nat) (i o : Nat) : adrOf t_ (.ptr i o) = .ptr i o := (rfl)
theorem placeOf_ptr (i o : Nat) : placeOf (.ptr i o) = some (.ptr i o) := (rfl)
theorem cells_fptr (cs : List AV) : AV.cells (.fptr cs) = [.fptr cs] := (rfl)
theorem okTop_fptr (cs : List AV) : okTop (.fptr cs) = true := (rfl)
theorem adrOf_fptr (t_ : Nat) (cs : List AV) : adrOf t_ (.fptr cs) = .fptr cs := (rfl)
theorem placeOf_fptr (cs : List AV) : placeOf (.fptr cs) = some (.fptr cs) := (rfl)
theorem cells_box (cs : List AV) : AV.cells (.box cs) = [.box cs] := (rfl)
theorem okTop_box (cs : List AV) : okTop (.box cs) = false := (rfl)
theorem adrOf_box (t_ : Nat) (cs : List AV) : adrOf t_ (.box cs) = .lptr t_ 0 := (rfl)
theorem cells_lptr (s o : Nat) : AV.cells (.lptr s o) = [.lptr s o] := (rfl)
theorem okTop_lptr (s o : Nat) : okTop (.lptr s o) = false := (rfl)
theorem adrOf_lptr (t_ : Nat) (s o : Nat) : adrOf t_ (.lptr s o) = .lptr s o := (rfl)
theorem placeOf_lptr (s o : Nat) : placeOf (.lptr s o) = some (.lptr s o) := (rfl)
theorem cells_nilsl  : AV.cells (.nilsl) = [.nilsl] := (rfl)
theorem okTop_nilsl  : okTop (.nilsl) = true := (rfl)
theorem adrOf_nilsl (t_ : Nat)  : adrOf t_ (.nilsl) = .nilsl := (rfl)
theorem cells_sl (w : Bool) (es : Nat) (rs : List (List AV)) : AV.cells (.sl w es rs) = [.sl w es rs] := (rfl)
theorem okTop_sl (w : Bool) (es : Nat) (rs : List (List AV)) : okTop (.sl w es rs) = true := (rfl)
theorem adrOf_sl (t_ : Nat) (w : Bool) (es : Nat) (rs : List (List AV)) : adrOf t_ (.sl w es rs) = .sl w es rs := (rfl)
theorem cells_rsl (a b c d : Nat) : AV.cells (.rsl a b c d) = [.rsl a b c d] := (rfl)
theorem okTop_rsl (a b c d : Nat) : okTop (.rsl a b c d) = true := (rfl)
theorem adrOf_rsl (t_ : Nat) (a b c d : Nat) : adrOf t_ (.rsl a b c d) = .rsl a b c d := (rfl)
theorem cells_aptr (a b c : Nat) : AV.cells (.aptr a b c) = [.aptr a b c] := (rfl)
theorem okTop_aptr (a b c : Nat) : okTop (.aptr a b c) = true := (rfl)
theorem adrOf_aptr (t_ : Nat) (a b c : Nat) : adrOf t_ (.aptr a b c) = .aptr a b c := (rfl)
theorem placeOf_aptr (a b c : Nat) : placeOf (.aptr a b c) = some (.aptr a b c) := (rfl)
theorem cells_nilmap  : AV.cells (.nilmap) = [.nilmap] := (rfl)
theorem okTop_nilmap  : okTop (.nilmap) = true := (rfl)
theorem adrOf_nilmap (t_ : Nat)  : adrOf t_ (.nilmap) = .nilmap := (rfl)
theorem cells_map (i : Nat) : AV.cells (.map i) = [.map i] := (rfl)
theorem okTop_map (i : Nat) : okTop (.map i) = true := (rfl)
theorem adrOf_map (t_ : Nat) (i : Nat) : adrOf t_ (.map i) = .map i := (rfl)
theorem cells_nilfn  : AV.cells (.nilfn) = [.nilfn] := (rfl)
theorem okTop_nilfn  : okTop (.nilfn) = true := (rfl)
theorem adrOf_nilfn (t_ : Nat)  : adrOf t_ (.nilfn) = .nilfn := (rfl)
theorem cells_fn (g : Fn) (a b : List AV) : AV.cells (.fn g a b) = [.fn g a b] := (rfl)
theorem okTop_fn (g : Fn) (a b : List AV) : okTop (.fn g a b) = true := (rfl)
theorem adrOf_fn (t_ : Nat) (g : Fn) (a b : List AV) : adrOf t_ (.fn g a b) = .fn g a b := (rfl)
theorem cells_yld (i : Nat) : AV.cells (.yld i) = [.yld i] := (rfl)
theorem okTop_yld (i : Nat) : okTop (.yld i) = true := (rfl)
theorem adrOf_yld (t_ : Nat) (i : Nat) : adrOf t_ (.yld i) = .yld i := (rfl)
theorem placeOf_yld (i : Nat) : placeOf (.yld i) = some (.yld i) := (rfl)
theorem cells_niliface  : AV.cells (.niliface) = [.niliface] := (rfl)
theorem okTop_niliface  : okTop (.niliface) = true := (rfl)
theorem adrOf_niliface (t_ : Nat)  : adrOf t_ (.niliface) = .niliface := (rfl)
theorem cells_iface (t : TypeId) (v : AV) : AV.cells (.iface t v) = [.iface t v] := (rfl)
theorem okTop_iface (t : TypeId) (v : AV) : okTop (.iface t v) = true := (rfl)
theorem adrOf_iface (t_ : Nat) (t : TypeId) (v : AV) : adrOf t_ (.iface t v) = .iface t v := (rfl)
theorem cells_agg (cs : List AV) : AV.cells (.agg cs) = cs := (rfl)
theorem okTop_agg (cs : List AV) : okTop (.agg cs) = true := (rfl)
theorem adrOf_agg (t_ : Nat) (cs : List AV) : adrOf t_ (.agg cs) = .agg cs := (rfl)
theorem cells_tup (vs : List AV) : AV.cells (.tup vs) = [.tup vs] := (rfl)
theorem okTop_tup (vs : List AV) : okTop (.tup vs) = false := (rfl)
theorem adrOf_tup (t_ : Nat) (vs : List AV) : adrOf t_ (.tup vs) = .tup vs := (rfl)
theorem extK_tup (vs : List AV) (i : Nat) : extK (.tup vs) i = vs[i]? := (rfl)
theorem panK_iface (t : TypeId) (v : AV) (st : St) : panK (.iface t v) st = some (.pan [⟨.iface t v, false⟩] st) := (rfl)
theorem noLp_strip0 (v : AV) : v.strip0.noLp = v.strip0 := by cases v <;> rfl
theorem noLp_strip1 (v : AV) : v.strip1.noLp = v.strip1 := by cases v <;> rfl
theorem noLp_strip (v : AV) : v.strip.noLp = v.strip := by cases v <;> rfl
theorem noLp_clr (v : AV) : v.clr.noLp = v.clr := by cases v <;> rfl
theorem clr_strip (v : AV) : v.strip.clr = v.strip := by cases v <;> rfl
theorem ofConst_bool (b : Bool) : AV.ofConst (.bool b) = .bool b := (rfl)
theorem ofConst_int (k : IntKind) (n : Int) : AV.ofConst (.int k n) = .int k n := (rfl)
theorem ofConst_string (s : ByteArray) : AV.ofConst (.string s) = .str s.data.toList := (rfl)
theorem ofConst_nilptr : AV.ofConst (.pointer none) = .nilptr := (rfl)
theorem ofConst_nilsl : AV.ofConst (.slice none 0 0) = .nilsl := (rfl)
theorem ofConst_nilmap : AV.ofConst (.map none) = .nilmap := (rfl)
theorem ofConst_nilfn : AV.ofConst .nilFunc = .nilfn := (rfl)
theorem ofConst_nilif : AV.ofConst .nilIface = .niliface := (rfl)
theorem leftA_move {d : Option Tmp} {ty : TypeId} {po : String} {af : Array Edge} {g : Option (Nat × Bool)} (x : Operand) (v : AV) : leftA ⟨d, .move x, ty, po, af, g⟩ v = v.noLp := (rfl)
theorem isPlaceOp_move {d : Option Tmp} {ty : TypeId} {po : String} {af : Array Edge} {g : Option (Nat × Bool)} (x : Operand) : isPlaceOp ⟨d, .move x, ty, po, af, g⟩ = none := (rfl)
theorem leftA_assign {d : Option Tmp} {ty : TypeId} {po : String} {af : Array Edge} {g : Option (Nat × Bool)} (x : Operand) (v : AV) : leftA ⟨d, .assign x, ty, po, af, g⟩ v = v.noLp := (rfl)
theorem isPlaceOp_assign {d : Option Tmp} {ty : TypeId} {po : String} {af : Array Edge} {g : Option (Nat × Bool)} (x : Operand) : isPlaceOp ⟨d, .assign x, ty, po, af, g⟩ = none := (rfl)
theorem leftA_pick {d : Option Tmp} {ty : TypeId} {po : String} {af : Array Edge} {g : Option (Nat × Bool)} (a b c : Operand) (v : AV) : leftA ⟨d, .pick a b c, ty, po, af, g⟩ v = v.noLp := (rfl)
theorem isPlaceOp_pick {d : Option Tmp} {ty : TypeId} {po : String} {af : Array Edge} {g : Option (Nat × Bool)} (a b c : Operand) : isPlaceOp ⟨d, .pick a b c, ty, po, af, g⟩ = none := (rfl)
theorem leftA_alloc {d : Option Tmp} {ty : TypeId} {po : String} {af : Array Edge} {g : Option (Nat × Bool)} (t : TypeId) (v : AV) : leftA ⟨d, .alloc t, ty, po, af, g⟩ v = v.noLp := (rfl)
theorem isPlaceOp_alloc {d : Option Tmp} {ty : TypeId} {po : String} {af : Array Edge} {g : Option (Nat × Bool)} (t : TypeId) : isPlaceOp ⟨d, .alloc t, ty, po, af, g⟩ = none := (rfl)
theorem leftA_box {d : Option Tmp} {ty : TypeId} {po : String} {af : Array Edge} {g : Option (Nat × Bool)} (t : TypeId) (x : Operand) (v : AV) : leftA ⟨d, .box t x, ty, po, af, g⟩ v = v.noLp := (rfl)
theorem isPlaceOp_box {d : Option Tmp} {ty : TypeId} {po : String} {af : Array Edge} {g : Option (Nat × Bool)} (t : TypeId) (x : Operand) : isPlaceOp ⟨d, .box t x, ty, po, af, g⟩ = none := (rfl)
theorem leftA_build {d : Option Tmp} {ty : TypeId} {po : String} {af : Array Edge} {g : Option (Nat × Bool)} (t : TypeId) (ps : Array (Nat × Operand)) (v : AV) : leftA ⟨d, .build t ps, ty, po, af, g⟩ v = v.noLp := (rfl)
theorem isPlaceOp_build {d : Option Tmp} {ty : TypeId} {po : String} {af : Array Edge} {g : Option (Nat × Bool)} (t : TypeId) (ps : Array (Nat × Operand)) : isPlaceOp ⟨d, .build t ps, ty, po, af, g⟩ = none := (rfl)
theorem leftA_buildSlice {d : Option Tmp} {ty : TypeId} {po : String} {af : Array Edge} {g : Option (Nat × Bool)} (t : TypeId) (n : Nat) (ps : Array (Nat × Operand)) (v : AV) : leftA ⟨d, .buildSlice t n ps, ty, po, af, g⟩ v = v.noLp := (rfl)
theorem isPlaceOp_buildSlice {d : Option Tmp} {ty : TypeId} {po : String} {af : Array Edge} {g : Option (Nat × Bool)} (t : TypeId) (n : Nat) (ps : Array (Nat × Operand)) : isPlaceOp ⟨d, .buildSlice t n ps, ty, po, af, g⟩ = none := (rfl)
theorem leftA_load {d : Option Tmp} {ty : TypeId} {po : String} {af : Array Edge} {g : Option (Nat × Bool)} (t : TypeId) (a : Operand) (v : AV) : leftA ⟨d, .load t a, ty, po, af, g⟩ v = v.noLp := (rfl)
theorem isPlaceOp_load {d : Option Tmp} {ty : TypeId} {po : String} {af : Array Edge} {g : Option (Nat × Bool)} (t : TypeId) (a : Operand) : isPlaceOp ⟨d, .load t a, ty, po, af, g⟩ = none := (rfl)
theorem leftA_store {d : Option Tmp} {ty : TypeId} {po : String} {af : Array Edge} {g : Option (Nat × Bool)} (t : TypeId) (a x : Operand) (v : AV) : leftA ⟨d, .store t a x, ty, po, af, g⟩ v = v.noLp := (rfl)
theorem isPlaceOp_store {d : Option Tmp} {ty : TypeId} {po : String} {af : Array Edge} {g : Option (Nat × Bool)} (t : TypeId) (a x : Operand) : isPlaceOp ⟨d, .store t a x, ty, po, af, g⟩ = none := (rfl)
theorem leftA_binOp {d : Option Tmp} {ty : TypeId} {po : String} {af : Array Edge} {g : Option (Nat × Bool)} (op : BinOp) (t : TypeId) (x y : Operand) (yt : TypeId) (v : AV) : leftA ⟨d, .binOp op t x y yt, ty, po, af, g⟩ v = v.noLp := (rfl)
theorem isPlaceOp_binOp {d : Option Tmp} {ty : TypeId} {po : String} {af : Array Edge} {g : Option (Nat × Bool)} (op : BinOp) (t : TypeId) (x y : Operand) (yt : TypeId) : isPlaceOp ⟨d, .binOp op t x y yt, ty, po, af, g⟩ = none := (rfl)
theorem leftA_unOp {d : Option Tmp} {ty : TypeId} {po : String} {af : Array Edge} {g : Option (Nat × Bool)} (op : UnOp) (t : TypeId) (x : Operand) (v : AV) : leftA ⟨d, .unOp op t x, ty, po, af, g⟩ v = v.noLp := (rfl)
theorem isPlaceOp_unOp {d : Option Tmp} {ty : TypeId} {po : String} {af : Array Edge} {g : Option (Nat × Bool)} (op : UnOp) (t : TypeId) (x : Operand) : isPlaceOp ⟨d, .unOp op t x, ty, po, af, g⟩ = none := (rfl)
theorem leftA_convert {d : Option Tmp} {ty : TypeId} {po : String} {af : Array Edge} {g : Option (Nat × Bool)} (a b : TypeId) (x : Operand) (v : AV) : leftA ⟨d, .convert a b x, ty, po, af, g⟩ v = v.noLp := (rfl)
theorem isPlaceOp_convert {d : Option Tmp} {ty : TypeId} {po : String} {af : Array Edge} {g : Option (Nat × Bool)} (a b : TypeId) (x : Operand) : isPlaceOp ⟨d, .convert a b x, ty, po, af, g⟩ = none := (rfl)
theorem leftA_makeInterface {d : Option Tmp} {ty : TypeId} {po : String} {af : Array Edge} {g : Option (Nat × Bool)} (t : TypeId) (x : Operand) (v : AV) : leftA ⟨d, .makeInterface t x, ty, po, af, g⟩ v = v.noLp := (rfl)
theorem isPlaceOp_makeInterface {d : Option Tmp} {ty : TypeId} {po : String} {af : Array Edge} {g : Option (Nat × Bool)} (t : TypeId) (x : Operand) : isPlaceOp ⟨d, .makeInterface t x, ty, po, af, g⟩ = none := (rfl)
theorem leftA_makeFunc {d : Option Tmp} {ty : TypeId} {po : String} {af : Array Edge} {g : Option (Nat × Bool)} (fn : Fn) (a b : Array Operand) (v : AV) : leftA ⟨d, .makeFunc fn a b, ty, po, af, g⟩ v = v.noLp := (rfl)
theorem isPlaceOp_makeFunc {d : Option Tmp} {ty : TypeId} {po : String} {af : Array Edge} {g : Option (Nat × Bool)} (fn : Fn) (a b : Array Operand) : isPlaceOp ⟨d, .makeFunc fn a b, ty, po, af, g⟩ = none := (rfl)
theorem leftA_makeSlice {d : Option Tmp} {ty : TypeId} {po : String} {af : Array Edge} {g : Option (Nat × Bool)} (t : TypeId) (l c : Operand) (v : AV) : leftA ⟨d, .makeSlice t l c, ty, po, af, g⟩ v = v.noLp := (rfl)
theorem isPlaceOp_makeSlice {d : Option Tmp} {ty : TypeId} {po : String} {af : Array Edge} {g : Option (Nat × Bool)} (t : TypeId) (l c : Operand) : isPlaceOp ⟨d, .makeSlice t l c, ty, po, af, g⟩ = none := (rfl)
theorem leftA_slice {d : Option Tmp} {ty : TypeId} {po : String} {af : Array Edge} {g : Option (Nat × Bool)} (t : TypeId) (x : Operand) (lo hi mx : Option Operand) (v : AV) : leftA ⟨d, .slice t x lo hi mx, ty, po, af, g⟩ v = v.noLp := (rfl)
theorem isPlaceOp_slice {d : Option Tmp} {ty : TypeId} {po : String} {af : Array Edge} {g : Option (Nat × Bool)} (t : TypeId) (x : Operand) (lo hi mx : Option Operand) : isPlaceOp ⟨d, .slice t x lo hi mx, ty, po, af, g⟩ = none := (rfl)
theorem leftA_field {d : Option Tmp} {ty : TypeId} {po : String} {af : Array Edge} {g : Option (Nat × Bool)} (t : TypeId) (x : Operand) (i : Nat) (v : AV) : leftA ⟨d, .field t x i, ty, po, af, g⟩ v = v.noLp := (rfl)
theorem isPlaceOp_field {d : Option Tmp} {ty : TypeId} {po : String} {af : Array Edge} {g : Option (Nat × Bool)} (t : TypeId) (x : Operand) (i : Nat) : isPlaceOp ⟨d, .field t x i, ty, po, af, g⟩ = none := (rfl)
theorem leftA_index {d : Option Tmp} {ty : TypeId} {po : String} {af : Array Edge} {g : Option (Nat × Bool)} (t : TypeId) (x i : Operand) (v : AV) : leftA ⟨d, .index t x i, ty, po, af, g⟩ v = v.noLp := (rfl)
theorem isPlaceOp_index {d : Option Tmp} {ty : TypeId} {po : String} {af : Array Edge} {g : Option (Nat × Bool)} (t : TypeId) (x i : Operand) : isPlaceOp ⟨d, .index t x i, ty, po, af, g⟩ = none := (rfl)
theorem leftA_range {d : Option Tmp} {ty : TypeId} {po : String} {af : Array Edge} {g : Option (Nat × Bool)} (t : TypeId) (x : Operand) (v : AV) : leftA ⟨d, .range t x, ty, po, af, g⟩ v = v.noLp := (rfl)
theorem isPlaceOp_range {d : Option Tmp} {ty : TypeId} {po : String} {af : Array Edge} {g : Option (Nat × Bool)} (t : TypeId) (x : Operand) : isPlaceOp ⟨d, .range t x, ty, po, af, g⟩ = none := (rfl)
theorem leftA_next {d : Option Tmp} {ty : TypeId} {po : String} {af : Array Edge} {g : Option (Nat × Bool)} (x : Operand) (b : Bool) (v : AV) : leftA ⟨d, .next x b, ty, po, af, g⟩ v = v.noLp := (rfl)
theorem isPlaceOp_next {d : Option Tmp} {ty : TypeId} {po : String} {af : Array Edge} {g : Option (Nat × Bool)} (x : Operand) (b : Bool) : isPlaceOp ⟨d, .next x b, ty, po, af, g⟩ = none := (rfl)
theorem leftA_typeAssert {d : Option Tmp} {ty : TypeId} {po : String} {af : Array Edge} {g : Option (Nat × Bool)} (x : Operand) (a b : TypeId) (ok : Bool) (v : AV) : leftA ⟨d, .typeAssert x a b ok, ty, po, af, g⟩ v = v.noLp := (rfl)
theorem isPlaceOp_typeAssert {d : Option Tmp} {ty : TypeId} {po : String} {af : Array Edge} {g : Option (Nat × Bool)} (x : Operand) (a b : TypeId) (ok : Bool) : isPlaceOp ⟨d, .typeAssert x a b ok, ty, po, af, g⟩ = none := (rfl)
theorem leftA_extract {d : Option Tmp} {ty : TypeId} {po : String} {af : Array Edge} {g : Option (Nat × Bool)} (x : Operand) (i : Nat) (v : AV) : leftA ⟨d, .extract x i, ty, po, af, g⟩ v = v.noLp := (rfl)
theorem isPlaceOp_extract {d : Option Tmp} {ty : TypeId} {po : String} {af : Array Edge} {g : Option (Nat × Bool)} (x : Operand) (i : Nat) : isPlaceOp ⟨d, .extract x i, ty, po, af, g⟩ = none := (rfl)
theorem leftA_call {d : Option Tmp} {ty : TypeId} {po : String} {af : Array Edge} {g : Option (Nat × Bool)} (c : Call) (v : AV) : leftA ⟨d, .call c, ty, po, af, g⟩ v = v.noLp := (rfl)
theorem isPlaceOp_call {d : Option Tmp} {ty : TypeId} {po : String} {af : Array Edge} {g : Option (Nat × Bool)} (c : Call) : isPlaceOp ⟨d, .call c, ty, po, af, g⟩ = none := (rfl)
theorem leftA_defer {d : Option Tmp} {ty : TypeId} {po : String} {af : Array Edge} {g : Option (Nat × Bool)} (c : Call) (v : AV) : leftA ⟨d, .defer c, ty, po, af, g⟩ v = v.noLp := (rfl)
theorem isPlaceOp_defer {d : Option Tmp} {ty : TypeId} {po : String} {af : Array Edge} {g : Option (Nat × Bool)} (c : Call) : isPlaceOp ⟨d, .defer c, ty, po, af, g⟩ = none := (rfl)
theorem leftA_panic {d : Option Tmp} {ty : TypeId} {po : String} {af : Array Edge} {g : Option (Nat × Bool)} (x : Operand) (v : AV) : leftA ⟨d, .panic x, ty, po, af, g⟩ v = v.noLp := (rfl)
theorem isPlaceOp_panic {d : Option Tmp} {ty : TypeId} {po : String} {af : Array Edge} {g : Option (Nat × Bool)} (x : Operand) : isPlaceOp ⟨d, .panic x, ty, po, af, g⟩ = none := (rfl)
theorem leftA_fieldAddr {d : Tmp} {ty : TypeId} {po : String} {af : Array Edge} {g : Option (Nat × Bool)} (s : TypeId) (x : Operand) (i : Nat) (v : AV) : leftA ⟨some d, .fieldAddr s x i, ty, po, af, g⟩ v = v := (rfl)
theorem isPlaceOp_fieldAddr {d : Option Tmp} {ty : TypeId} {po : String} {af : Array Edge} {g : Option (Nat × Bool)} (s : TypeId) (x : Operand) (i : Nat) : isPlaceOp ⟨d, .fieldAddr s x i, ty, po, af, g⟩ = d := (rfl)
theorem leftA_indexAddr {d : Tmp} {ty : TypeId} {po : String} {af : Array Edge} {g : Option (Nat × Bool)} (s : TypeId) (x i : Operand) (v : AV) : leftA ⟨some d, .indexAddr s x i, ty, po, af, g⟩ v = v := (rfl)
theorem isPlaceOp_indexAddr {d : Option Tmp} {ty : TypeId} {po : String} {af : Array Edge} {g : Option (Nat × Bool)} (s : TypeId) (x i : Operand) : isPlaceOp ⟨d, .indexAddr s x i, ty, po, af, g⟩ = d := (rfl)
theorem leftA_nilCheck {d : Tmp} {ty : TypeId} {po : String} {af : Array Edge} {g : Option (Nat × Bool)} (x : Operand) (v : AV) : leftA ⟨some d, .nilCheck x, ty, po, af, g⟩ v = v := (rfl)
theorem isPlaceOp_nilCheck {d : Option Tmp} {ty : TypeId} {po : String} {af : Array Edge} {g : Option (Nat × Bool)} (x : Operand) : isPlaceOp ⟨d, .nilCheck x, ty, po, af, g⟩ = d := (rfl)
theorem binA_int_add {t : TypeId} {lit : Bool} (k : IntKind) (a b : Int) : binA P .add t lit (.int k a) (.int k b) = some (.int k (k.wrap (a + b))) := by simp only [binA, intBin, if_true]
theorem binA_int_sub {t : TypeId} {lit : Bool} (k : IntKind) (a b : Int) : binA P .sub t lit (.int k a) (.int k b) = some (.int k (k.wrap (a - b))) := by simp only [binA, intBin, if_true]
theorem binA_int_mul {t : TypeId} {lit : Bool} (k : IntKind) (a b : Int) : binA P .mul t lit (.int k a) (.int k b) = some (.int k (k.wrap (a * b))) := by simp only [binA, intBin, if_true]
theorem binA_int_quo {t : TypeId} {lit : Bool} (k : IntKind) (a b : Int) : binA P .quo t lit (.int k a) (.int k b) = if b = 0 then none else some (.int k (k.wrap (a.tdiv b))) := by simp only [binA, intBin, if_true]
theorem binA_int_rem {t : TypeId} {lit : Bool} (k : IntKind) (a b : Int) : binA P .rem t lit (.int k a) (.int k b) = if b = 0 then none else some (.int k (a.tmod b)) := by simp only [binA, intBin, if_true]
theorem binA_int_and {t : TypeId} {lit : Bool} (k : IntKind) (a b : Int) : binA P .and t lit (.int k a) (.int k b) = bitsA .and k a b := by simp only [binA, intBin, if_true]
theorem binA_int_or {t : TypeId} {lit : Bool} (k : IntKind) (a b : Int) : binA P .or t lit (.int k a) (.int k b) = bitsA .or k a b := by simp only [binA, intBin, if_true]
theorem binA_int_xor {t : TypeId} {lit : Bool} (k : IntKind) (a b : Int) : binA P .xor t lit (.int k a) (.int k b) = bitsA .xor k a b := by simp only [binA, intBin, if_true]
theorem binA_int_andNot {t : TypeId} {lit : Bool} (k : IntKind) (a b : Int) : binA P .andNot t lit (.int k a) (.int k b) = bitsA .andNot k a b := by simp only [binA, intBin, if_true]
theorem binA_int_eql {t : TypeId} {lit : Bool} (k : IntKind) (a b : Int) : binA P .eql t lit (.int k a) (.int k b) = some (.bool (a == b)) := by simp only [binA, intBin, cmpInt, if_true]
theorem binA_int_neq {t : TypeId} {lit : Bool} (k : IntKind) (a b : Int) : binA P .neq t lit (.int k a) (.int k b) = some (.bool (a != b)) := by simp only [binA, intBin, cmpInt, if_true]
theorem binA_int_lss {t : TypeId} {lit : Bool} (k : IntKind) (a b : Int) : binA P .lss t lit (.int k a) (.int k b) = some (.bool (decide (a < b))) := by simp only [binA, intBin, cmpInt, if_true]
theorem binA_int_leq {t : TypeId} {lit : Bool} (k : IntKind) (a b : Int) : binA P .leq t lit (.int k a) (.int k b) = some (.bool (decide (a ≤ b))) := by simp only [binA, intBin, cmpInt, if_true]
theorem binA_int_gtr {t : TypeId} {lit : Bool} (k : IntKind) (a b : Int) : binA P .gtr t lit (.int k a) (.int k b) = some (.bool (decide (a > b))) := by simp only [binA, intBin, cmpInt, if_true]
theorem binA_int_geq {t : TypeId} {lit : Bool} (k : IntKind) (a b : Int) : binA P .geq t lit (.int k a) (.int k b) = some (.bool (decide (a ≥ b))) := by simp only [binA, intBin, cmpInt, if_true]
theorem binA_int_shl {t : TypeId} {lit : Bool} (k j : IntKind) (a b : Int) : binA P .shl t lit (.int k a) (.int j b) = if b < 0 then none else some (.int k (k.wrap (a * 2 ^ (min b.toNat k.bits)))) := (rfl)
theorem binA_int_shr {t : TypeId} {lit : Bool} (k j : IntKind) (a b : Int) : binA P .shr t lit (.int k a) (.int j b) = if b < 0 then none else some (.int k (a.fdiv (2 ^ (min b.toNat k.bits)))) := (rfl)
theorem binA_str_add {t : TypeId} {lit : Bool} (x y : List UInt8) : binA P .add t lit (.str x) (.str y) = if x.length + y.length < 4611686018427387904 then some (.str (x ++ y)) else none := (rfl)
theorem binA_str_eql {t : TypeId} {lit : Bool} (x y : List UInt8) : binA P .eql t lit (.str x) (.str y) = some (.bool (x == y)) := (rfl)
theorem binA_str_neq {t : TypeId} {lit : Bool} (x y : List UInt8) : binA P .neq t lit (.str x) (.str y) = some (.bool !(x == y)) := (rfl)
theorem binA_str_lss {t : TypeId} {lit : Bool} (x y : List UInt8) : binA P .lss t lit (.str x) (.str y) = some (.bool (Op.bytesLess x y)) := (rfl)
theorem binA_str_leq {t : TypeId} {lit : Bool} (x y : List UInt8) : binA P .leq t lit (.str x) (.str y) = some (.bool (Op.bytesLess x y || x == y)) := (rfl)
theorem binA_str_gtr {t : TypeId} {lit : Bool} (x y : List UInt8) : binA P .gtr t lit (.str x) (.str y) = some (.bool !(Op.bytesLess x y || x == y)) := (rfl)
theorem binA_str_geq {t : TypeId} {lit : Bool} (x y : List UInt8) : binA P .geq t lit (.str x) (.str y) = some (.bool !(Op.bytesLess x y)) := (rfl)
theorem unA_not (b : Bool) : unA .not (.bool b) = some (.bool !b) := (rfl)
theorem unA_neg (k : IntKind) (n : Int) : unA .neg (.int k n) = some (.int k (k.wrap (0 - n))) := (rfl)
theorem loadA_fptr (S : Sto) (env : List AV) (t : TypeId) (cs : List AV) : loadA P S env t (.fptr cs) = valAt P t cs := (rfl)
def boxOf : AV → Option (List AV)
 | .box cs => some cs
 | _ => none
theorem boxOf_box (cs : List AV) : boxOf (.box cs) = some cs := (rfl)
theorem loadA_lptr (S : Sto) (env : List AV) (t : TypeId) (s off : Nat) : loadA P S env t (.lptr s off) = oB (boxOf (getT env s)) fun cs => valAt P t ((cs.drop off).map AV.strip0) := by
 simp only [loadA, getT_eq]
 cases getT env s <;> rfl
def cellsOf : Option Obj → Option (List AV)
 | some (.cells cs) => some cs
 | _ => none
theorem cellsOf_some (cs : List AV) : cellsOf (some (.cells cs)) = some cs := (rfl)
theorem loadA_ptr (S : Sto) (env : List AV) (t : TypeId) (id off : Nat) : loadA P S env t (.ptr id off) = oB (cellsOf (S.get id)) fun cs => valAt P t ((cs.drop off).map AV.strip0) := by
 simp only [loadA]
 cases S.get id with
 | none => rfl
 | some o => cases o <;> rfl
theorem loadS_plain {d : Tmp} {t : TypeId} {a : AV} {st : St} (h : pol.take f d = false) : loadS P pol f (some d) t a st = oB (loadA P st.S st.env t a) fun v => some (.val v st) := by
 simp only [loadS, h, Bool.false_eq_true, if_false, oB]
 cases loadA P st.S st.env t a <;> rfl
theorem loadS_take_ptr {d : Tmp} {t : TypeId} {id off : Nat} {st : St} (h : pol.take f d = true) : loadS P pol f (some d) t (.ptr id off) st =
  oB (cellsOf (st.S.get id)) fun cs => oB (takeCells P t off cs) fun r => some (.val r.1 { st with S := st.S.put id (.cells r.2) }) := by
 simp only [loadS, h, if_true, oB]
 cases st.S.get id with
 | none => rfl
 | some o =>
  cases o <;> try rfl
  rename_i cs
  simp only [cellsOf]
  cases takeCells P t off cs <;> rfl
theorem loadS_take_lptr {d : Tmp} {t : TypeId} {s off : Nat} {st : St} (h : pol.take f d = true) (hne : ¬ s = d) : loadS P pol f (some d) t (.lptr s off) st =
  oB (boxOf (getT st.env s)) fun cs => oB (takeCells P t off cs) fun r => some (.val r.1 { st with env := setT st.env s (.box r.2) }) := by
 simp only [loadS, h, if_true, oB, getT_eq, setT_eq]
 cases getT st.env s <;> try rfl
 rename_i cs
 simp only [boxOf, if_neg hne]
 cases takeCells P t off cs <;> rfl
theorem storeS_ptr {t : TypeId} {id off : Nat} {v : AV} {st : St} : storeS P t (.ptr id off) v st = oB (cellsOf (st.S.get id)) fun cs => oB (writeCells P t off cs v) fun cs' => some (.val .undef { st with S := st.S.put id (.cells cs') }) := by
 simp only [storeS, oB]
 cases st.S.get id with
 | none => rfl
 | some o =>
  cases o <;> try rfl
  rename_i cs
  simp only [cellsOf]
  cases writeCells P t off cs v <;> rfl
theorem storeS_lptr {t : TypeId} {s off : Nat} {v : AV} {st : St} : storeS P t (.lptr s off) v st = oB (boxOf (getT st.env s)) fun cs => oB (writeCells P t off cs v) fun cs' => some (.val .undef { st with env := setT st.env s (.box cs') }) := by
 simp only [storeS, oB, getT_eq, setT_eq]
 cases getT st.env s <;> try rfl
 rename_i cs
 simp only [boxOf]
 cases writeCells P t off cs v <;> rfl
theorem newVarA_loc {d : Tmp} {cs : List AV} {st : St} (h : pol.loc f d = true) : newVarA pol f pl (some d) cs st = bif noPlaceIn st.env d pl then some (.val (.box cs) st) else none := by
 simp only [newVarA, h, if_true]
 cases noPlaceIn st.env d pl <;> rfl
theorem newVarA_sto {d : Tmp} {cs : List AV} {st : St} (h : pol.loc f d = false) : newVarA pol f pl (some d) cs st = some (.val (.ptr st.S.next 0) { st with S := st.S.new (.cells cs) }) := by
 simp only [newVarA, h, Bool.false_eq_true, if_false]
def lpAt (s : Nat) : AV → Bool
 | .lptr s' _ => !(s' == s)
 | _ => true
theorem noPlace_nil (env : List AV) (s : Tmp) : noPlaceIn env s [] = true := (rfl)
theorem noPlace_cons (env : List AV) (s t : Tmp) (ts : List Tmp) : noPlaceIn env s (t :: ts) = (lpAt s (getT env t) && noPlaceIn env s ts) := by
 simp only [noPlaceIn, getT_eq]
 congr 1
theorem calleeA_func (args : List AV) (g : FuncId) (first cap : List AV) : calleeA args (.fn (.func g) first cap) = some (.func g, first ++ args ++ cap) := (rfl)
theorem calleeA_yld (args : List AV) (id : Nat) : calleeA args (.yld id) = some (.yield id, args) := (rfl)
theorem argsA_nil (env : List AV) : argsA env [] = [] := (rfl)
theorem fieldAddrA_of {s : TypeId} {a : AV} {i : Nat} {fl : Field} (h : fieldOf P s i = some fl) (hz : P.cellsOf fl.type ≠ 0) : fieldAddrA P s a i = addOff a fl.offset := by
 simp only [fieldAddrA, h, if_neg hz]
theorem addOff_ptr (id off n : Nat) : addOff (.ptr id off) n = some (.ptr id (off + n)) := (rfl)
theorem addOff_lptr (s off n : Nat) : addOff (.lptr s off) n = some (.lptr s (off + n)) := (rfl)
theorem addOff_aptr (id r off n : Nat) : addOff (.aptr id r off) n = some (.aptr id r (off + n)) := (rfl)
theorem addOff_fptr (cs : List AV) (n : Nat) : addOff (.fptr cs) n = if n < cs.length then some (.fptr (cs.drop n)) else none := (rfl)
theorem lpAt_unk (s_ : Nat)  : lpAt s_ (.unk) = true := (rfl)
theorem lpAt_bool (s_ : Nat) (b : Bool) : lpAt s_ (.bool b) = true := (rfl)
theorem lpAt_int (s_ : Nat) (k : IntKind) (n : Int) : lpAt s_ (.int k n) = true := (rfl)
theorem lpAt_str (s_ : Nat) (s : List UInt8) : lpAt s_ (.str s) = true := (rfl)
theorem lpAt_nilptr (s_ : Nat)  : lpAt s_ (.nilptr) = true := (rfl)
theorem lpAt_ptr (s_ : Nat) (i o : Nat) : lpAt s_ (.ptr i o) = true := (rfl)
theorem lpAt_fptr (s_ : Nat) (cs : List AV) : lpAt s_ (.fptr cs) = true := (rfl)
theorem lpAt_box (s_ : Nat) (cs : List AV) : lpAt s_ (.box cs) = true := (rfl)
theorem lpAt_nilsl (s_ : Nat)  : lpAt s_ (.nilsl) = true := (rfl)
theorem lpAt_sl (s_ : Nat) (w : Bool) (es : Nat) (rs : List (List AV)) : lpAt s_ (.sl w es rs) = true := (rfl)
theorem lpAt_rsl (s_ : Nat) (a b c d : Nat) : lpAt s_ (.rsl a b c d) = true := (rfl)
theorem lpAt_aptr (s_ : Nat) (a b c : Nat) : lpAt s_ (.aptr a b c) = true := (rfl)
theorem lpAt_nilmap (s_ : Nat)  : lpAt s_ (.nilmap) = true := (rfl)
theorem lpAt_map (s_ : Nat) (i : Nat) : lpAt s_ (.map i) = true := (rfl)
theorem lpAt_nilfn (s_ : Nat)  : lpAt s_ (.nilfn) = true := (rfl)
theorem lpAt_fn (s_ : Nat) (g : Fn) (a b : List AV) : lpAt s_ (.fn g a b) = true := (rfl)
theorem lpAt_yld (s_ : Nat) (i : Nat) : lpAt s_ (.yld i) = true := (rfl)
theorem lpAt_niliface (s_ : Nat)  : lpAt s_ (.niliface) = true := (rfl)
theorem lpAt_iface (s_ : Nat) (t : TypeId) (v : AV) : lpAt s_ (.iface t v) = true := (rfl)
theorem lpAt_agg (s_ : Nat) (cs : List AV) : lpAt s_ (.agg cs) = true := (rfl)
theorem lpAt_tup (s_ : Nat) (vs : List AV) : lpAt s_ (.tup vs) = true := (rfl)
theorem lpAt_lptr (s_ s o : Nat) : lpAt s_ (.lptr s o) = !(s == s_) := (rfl)
def fineB (P : Program) : Bool :=
 (List.range P.types.size).all (fun t => match P.underlying t with
  | some (.struct fs) => fs.toList.all fun f => (P.info? f.type).isSome
  | some (.array _ e) => (P.info? e).isSome
  | _ => true) && P.funcs.toList.all fun fn => !(fn.body.isSome && fn.name == "runtime.NumGoroutine")
theorem fine_of {P : Program} (h : fineB P = true) : Fine P := by
 simp only [fineB, Bool.and_eq_true, List.all_eq_true] at h
 obtain ⟨h1, h2⟩ := h
 refine ⟨fun t fs ht hu f hf => ?_, fun t n e ht hu => ?_, fun f fn hf hb => ?_⟩
 ·have := h1 t (List.mem_range.2 ht)
  rw [hu] at this
  exact List.all_eq_true.1 this f hf
 ·have := h1 t (List.mem_range.2 ht)
  rw [hu] at this
  exact this
 ·have := h2 fn (List.mem_of_getElem? (by rw [Array.getElem?_toList]; exact hf))
  simpa [hb] using this
def AEnd.isTrue : AEnd → Bool
 | .ret (.bool true) => true
 | _ => false
theorem fieldAddrA_at {s : TypeId} {i off k : Nat} (h : (fieldOf P s i).map (fun f => (f.offset, P.cellsOf f.type)) = some (off, k + 1)) (a : AV) : fieldAddrA P s a i = addOff a off := by
 cases hf : fieldOf P s i with
 | none => rw [hf] at h; cases h
 | some fl =>
  rw [hf] at h
  simp only [Option.map_some, Option.some.injEq, Prod.mk.injEq] at h
  simp only [fieldAddrA, hf, if_neg (show ¬ P.cellsOf fl.type = 0 by omega), h.1]
theorem fieldA_at {t ft : TypeId} {i off : Nat} (h : (fieldOf P t i).map (fun f => (f.offset, f.type)) = some (off, ft)) (cs : List AV) : fieldA P t (.agg cs) i = valAt P ft (cs.drop off) := by
 cases hf : fieldOf P t i with
 | none => rw [hf] at h; cases h
 | some fl =>
  rw [hf] at h
  simp only [Option.map_some, Option.some.injEq, Prod.mk.injEq] at h
  simp only [fieldA, hf, h.1, h.2]
theorem valAt_one {t : TypeId} (h1 : (P.underlying t).isSome = true) (h2 : aggT P t = false) (cs : List AV) : valAt P t cs = cs.head? := by
 unfold valAt
 unfold aggT at h2
 cases hu : P.underlying t with
 | none => rw [hu] at h1; cases h1
 | some d => rw [hu] at h2; cases d <;> first | rfl | cases h2
theorem valAt_agg {t : TypeId} (h2 : aggT P t = true) (cs : List AV) : valAt P t cs = if P.cellsOf t ≤ cs.length then some (.agg (cs.take (P.cellsOf t))) else none := by
 unfold valAt
 unfold aggT at h2
 cases hu : P.underlying t with
 | none => rw [hu] at h2; cases h2
 | some d => rw [hu] at h2; cases d <;> first | rfl | cases h2
attribute [simp] oB_some oB_none bindN_normal bindN_ret bindN_exit bindN_goto bindN_pan blkK_normal blkK_ret blkK_pan blkK_exit masked_none frzSt_nil proSt_nil bK_true bK_false gK_tt gK_ff gK_tf gK_ft gK_un gK_un' rK_val rK_pan rK_call cK_ret cK_pan
attribute [simp] ev_skip ev_label ev_seq ev_cond ev_block ev_exit ev_goto ev_ret ev_regionL ev_loop ev_draw wantedL_none wantedL_some gT_some evL_nil evL_cons dstAt_zero dstAt_succ opAt_zero opAt_succ
attribute [simp] opA_move opA_assign opA_pick opA_build opA_nilCheck opA_binOp opA_unOp opA_makeInterface opA_makeFunc opA_slice opA_fieldAddr opA_field opA_indexAddr opA_index opA_typeAssert opA_extract opA_min opA_max opA_alloc opA_box opA_load opA_store opA_len
 opA_recover opA_callv opA_invoke opA_copy clK_false clK_true isCl_tmp isCl_const isCl_func opA_defer opA_panic opA_append opA_makeSlice opA_buildSlice opA_convert
attribute [simp] getT_zero getT_succ setT_zero setT_succ opd_tmp opd_const opd_func opt_tmp opt_const opt_func adrT_tmp adr_const stripAt_nil stripAt_cons wipe_nil wipe_cons puts_some puts_none tmpsOf_nil tmpsOf_tmp tmpsOf_const tmpsOf_func
attribute [simp] strip0_unk strip0_bool strip0_int strip0_str strip0_nilptr strip0_ptr strip0_fptr strip0_box strip0_lptr strip0_nilsl strip0_sl strip0_rsl
attribute [simp] strip0_aptr strip0_nilmap strip0_map strip0_nilfn strip0_fn strip0_yld strip0_niliface strip0_iface strip0_agg strip0_tup strip1_unk strip1_bool
attribute [simp] strip1_int strip1_str strip1_nilptr strip1_ptr strip1_fptr strip1_box strip1_lptr strip1_nilsl strip1_sl strip1_rsl strip1_aptr strip1_nilmap
attribute [simp] strip1_map strip1_nilfn strip1_fn strip1_yld strip1_niliface strip1_iface strip1_agg strip1_tup strip_unk strip_bool strip_int strip_str
attribute [simp] strip_nilptr strip_ptr strip_fptr strip_box strip_lptr strip_nilsl strip_sl strip_rsl strip_aptr strip_nilmap strip_map strip_nilfn
attribute [simp] strip_fn strip_yld strip_niliface strip_iface strip_agg strip_tup strip_undef clr_unk clr_bool clr_int clr_str clr_nilptr
attribute [simp] clr_ptr clr_fptr clr_box clr_lptr clr_nilsl clr_sl clr_rsl clr_aptr clr_nilmap clr_map clr_nilfn clr_fn
attribute [simp] clr_yld clr_niliface clr_iface clr_agg clr_tup clr_undef noLp_unk noLp_bool noLp_int noLp_str noLp_nilptr noLp_ptr
attribute [simp] noLp_fptr noLp_box noLp_lptr noLp_nilsl noLp_sl noLp_rsl noLp_aptr noLp_nilmap noLp_map noLp_nilfn noLp_fn noLp_yld
attribute [simp] noLp_niliface noLp_iface noLp_agg noLp_tup noLp_undef cells_unk okTop_unk adrOf_unk cells_bool okTop_bool adrOf_bool cells_int
attribute [simp] okTop_int adrOf_int cells_str okTop_str adrOf_str cells_nilptr okTop_nilptr adrOf_nilptr cells_ptr okTop_ptr adrOf_ptr placeOf_ptr
attribute [simp] cells_fptr okTop_fptr adrOf_fptr placeOf_fptr cells_box okTop_box adrOf_box cells_lptr okTop_lptr adrOf_lptr placeOf_lptr cells_nilsl
attribute [simp] okTop_nilsl adrOf_nilsl cells_sl okTop_sl adrOf_sl cells_rsl okTop_rsl adrOf_rsl cells_aptr okTop_aptr adrOf_aptr placeOf_aptr
attribute [simp] cells_nilmap okTop_nilmap adrOf_nilmap cells_map okTop_map adrOf_map cells_nilfn okTop_nilfn adrOf_nilfn cells_fn okTop_fn adrOf_fn
attribute [simp] cells_yld okTop_yld adrOf_yld placeOf_yld cells_niliface okTop_niliface adrOf_niliface cells_iface okTop_iface adrOf_iface cells_agg okTop_agg
attribute [simp] adrOf_agg cells_tup okTop_tup adrOf_tup extK_tup panK_iface noLp_strip0 noLp_strip1 noLp_strip noLp_clr clr_strip strip_idem
attribute [simp] ofConst_bool ofConst_int ofConst_string ofConst_nilptr ofConst_nilsl ofConst_nilmap ofConst_nilfn ofConst_nilif leftA_move isPlaceOp_move leftA_assign isPlaceOp_assign
attribute [simp] leftA_pick isPlaceOp_pick leftA_alloc isPlaceOp_alloc leftA_box isPlaceOp_box leftA_build isPlaceOp_build leftA_buildSlice isPlaceOp_buildSlice leftA_load isPlaceOp_load
attribute [simp] leftA_store isPlaceOp_store leftA_binOp isPlaceOp_binOp leftA_unOp isPlaceOp_unOp leftA_convert isPlaceOp_convert leftA_makeInterface isPlaceOp_makeInterface leftA_makeFunc isPlaceOp_makeFunc
attribute [simp] leftA_makeSlice isPlaceOp_makeSlice leftA_slice isPlaceOp_slice leftA_field isPlaceOp_field leftA_index isPlaceOp_index leftA_range isPlaceOp_range leftA_next isPlaceOp_next
attribute [simp] leftA_typeAssert isPlaceOp_typeAssert leftA_extract isPlaceOp_extract leftA_call isPlaceOp_call leftA_defer isPlaceOp_defer leftA_panic isPlaceOp_panic leftA_fieldAddr isPlaceOp_fieldAddr
attribute [simp] leftA_indexAddr isPlaceOp_indexAddr leftA_nilCheck isPlaceOp_nilCheck binA_int_add binA_int_sub binA_int_mul binA_int_quo binA_int_rem binA_int_and binA_int_or binA_int_xor
attribute [simp] binA_int_andNot binA_int_eql binA_int_neq binA_int_lss binA_int_leq binA_int_gtr binA_int_geq binA_int_shl binA_int_shr binA_str_add binA_str_eql binA_str_neq
attribute [simp] binA_str_lss binA_str_leq binA_str_gtr binA_str_geq lpAt_unk lpAt_bool lpAt_int lpAt_str lpAt_nilptr lpAt_ptr lpAt_fptr lpAt_box
attribute [simp] lpAt_nilsl lpAt_sl lpAt_rsl lpAt_aptr lpAt_nilmap lpAt_map lpAt_nilfn lpAt_fn lpAt_yld lpAt_niliface lpAt_iface lpAt_agg
attribute [simp] lpAt_tup lpAt_lptr unA_not unA_neg loadA_fptr boxOf_box loadA_lptr cellsOf_some loadA_ptr storeS_ptr storeS_lptr noPlace_nil
attribute [simp] noPlace_cons calleeA_func calleeA_yld argsA_nil addOff_ptr addOff_lptr addOff_aptr addOff_fptr
attribute [simp] loadS_plain loadS_take_ptr loadS_take_lptr newVarA_loc newVarA_sto
attribute [simp] consO_none consO_some plL_nil plL_cons
end Go.Ab
namespace Go.Ab
variable {P : Program} {H : Handler} {pol : Pol} {f : FuncId} {N : Nat} {round : Option Nat}
def endK (P : Program) (pol : Pol) (f : FuncId) (rs : List ResultVar) (st : St) (r : Option (AMode × Sto)) : Option (AEnd × AMode × Sto) := match r with
 | some (.returning, S') => match resultsA P (pol.frz f) rs st.env S' with
  | some (vs, S'') => some (.ret (oneOf vs), st.par, freeAt st.env (pol.frees f) S'')
  | none => none
 | some (.panicking ch, S') => some (.pan ch, st.par, freeAt st.env (pol.frees f) S')
 | _ => none
def finK (P : Program) (H : Handler) (pol : Pol) (f : FuncId) (rs : List ResultVar) (r : Option (AExit × St)) : Option (AEnd × AMode × Sto) := match r with
 | some (.normal, st) | some (.ret, st) => endK P pol f rs st (unwindA H st.defs .returning st.S)
 | some (.pan ch, st) => endK P pol f rs st (unwindA H st.defs (.panicking ch) st.S)
 | _ => none
@[congr] theorem finK_congr {rs : List ResultVar} {r r' : Option (AExit × St)} (h : r = r') : finK P H pol f rs r = finK P H pol f rs r' := by rw [h]
@[congr] theorem endK_congr {rs : List ResultVar} {st : St} {r r' : Option (AMode × Sto)} (h : r = r') : endK P pol f rs st r = endK P pol f rs st r' := by rw [h]
theorem runFn_eq {fn : Func} {c : Code} {par : AMode} {args : List AV} {S : Sto} (h1 : P.funcs[f]? = some fn) (h2 : fn.body = some c) :
  runFn P H N pol f par args S = finK P H pol f fn.results.toList (evCode P H N pol f none c { env := args ++ List.replicate (fn.ntmps - args.length) .undef, defs := [], par, S }) := by
 unfold runFn
 simp only [h1, h2]
 unfold finK endK
 cases evCode P H N pol f none c { env := args ++ List.replicate (fn.ntmps - args.length) .undef, defs := [], par, S } with
 | none => rfl
 | some xs => obtain ⟨x, st⟩ := xs; cases x <;> rfl
theorem finK_normal {rs : List ResultVar} {st : St} : finK P H pol f rs (some (.normal, st)) = endK P pol f rs st (unwindA H st.defs .returning st.S) := (rfl)
theorem finK_ret {rs : List ResultVar} {st : St} : finK P H pol f rs (some (.ret, st)) = endK P pol f rs st (unwindA H st.defs .returning st.S) := (rfl)
theorem finK_pan {rs : List ResultVar} {st : St} {ch : List APan} : finK P H pol f rs (some (.pan ch, st)) = endK P pol f rs st (unwindA H st.defs (.panicking ch) st.S) := (rfl)
theorem unwind_nil (m : AMode) (S : Sto) : unwindA H [] m S = some (m, S) := (rfl)
theorem endK_ret {rs : List ResultVar} {st : St} {S : Sto} : endK P pol f rs st (some (.returning, S)) = oB (resultsA P (pol.frz f) rs st.env S) fun r => some (.ret (oneOf r.1), st.par, freeAt st.env (pol.frees f) r.2) := by
 simp only [endK, oB]
 cases resultsA P (pol.frz f) rs st.env S <;> rfl
theorem endK_pan {rs : List ResultVar} {st : St} {S : Sto} {ch : List APan} : endK P pol f rs st (some (.panicking ch, S)) = some (.pan ch, st.par, freeAt st.env (pol.frees f) S) := (rfl)
theorem resultsA_nil (fz : Bool) (env : List AV) (S : Sto) : resultsA P fz [] env S = some ([], S) := (rfl)
theorem frzV_no (S : Sto) (v : AV) : frzV false S v = (v, S) := by cases v <;> rfl
theorem frzV_agg (S : Sto) (cs : List AV) : frzV true S (.agg cs) = (.agg (frzCells S cs).1, (frzCells S cs).2) := (rfl)
theorem frzV_rsl (S : Sto) (a b c d : Nat) : frzV true S (.rsl a b c d) = frzA true S (.rsl a b c d) := (rfl)
theorem frzV_int (S : Sto) (k : IntKind) (x : Int) : frzV true S (.int k x) = (.int k x, S) := (rfl)
theorem frzV_nil (S : Sto) : frzV true S .nilsl = (.nilsl, S) := (rfl)
theorem frzCells_nil (S : Sto) : frzCells S [] = ([], S) := (rfl)
theorem frzCells_cons (S : Sto) (v : AV) (vs : List AV) : frzCells S (v :: vs) = ((frzA true S v).1 :: (frzCells (frzA true S v).2 vs).1, (frzCells (frzA true S v).2 vs).2) := (rfl)
theorem frzA_int (S : Sto) (k : IntKind) (x : Int) : frzA true S (.int k x) = (.int k x, S) := (rfl)
theorem frzA_bool (S : Sto) (x : Bool) : frzA true S (.bool x) = (.bool x, S) := (rfl)
theorem frzA_str (S : Sto) (x : List UInt8) : frzA true S (.str x) = (.str x, S) := (rfl)
theorem frzA_sl (S : Sto) (o : Bool) (es : Nat) (rows : List (List AV)) : frzA true S (.sl o es rows) = (.sl o es rows, S) := (rfl)
theorem frzA_no (S : Sto) (v : AV) : frzA false S v = (v, S) := (rfl)
theorem frzA_nil (fz : Bool) (S : Sto) : frzA fz S .nilsl = (.nilsl, S) := by cases fz <;> rfl
theorem frzA_arr {S : Sto} {id es : Nat} {rows : List (List AV)} (h : S.get id = some (.arr es rows)) : frzA true S (.rsl id es 0 rows.length) = (.sl false es rows, S.drop id) := by
 simp [frzA, h]
theorem resultsA_tmp (fz : Bool) (t : Tmp) (rs : List ResultVar) (env : List AV) (S : Sto) : resultsA P fz (.tmp t :: rs) env S = oB (resultsA P fz rs (setT env t (getT env t).strip) (frzV fz S (getT env t).clr).2) fun r => some ((frzV fz S (getT env t).clr).1 :: r.1, r.2) := by
 simp only [resultsA, resultA, opt_tmp, stripAt_cons, stripAt_nil, oB]
 cases resultsA P fz rs (setT env t (getT env t).strip) (frzV fz S (getT env t).clr).2 <;> rfl
def resK (P : Program) (fz : Bool) (t : TypeId) (a : AV) (env : List AV) (S : Sto) : Option (AV × List AV × Sto) := match a with
 | .ptr id off => match S.get id with
  | some (.cells cs) => (takeCells P t off cs).map fun (v, cs') => ((frzV fz (S.put id (.cells cs')) v).1, env, (frzV fz (S.put id (.cells cs')) v).2)
  | _ => none
 | .lptr s off => match env.getD s .undef with
  | .box cs => (takeCells P t off cs).map fun (v, cs') => ((frzV fz S v).1, env.set s (.box cs'), (frzV fz S v).2)
  | _ => none
 | _ => none
theorem resultsA_cell (a : Tmp) (t : TypeId) (fz : Bool) (rs : List ResultVar) (env : List AV) (S : Sto) : resultsA P fz (.cell a t :: rs) env S = oB (resK P fz t (adrOf a (getT env a)) env S) fun q => oB (resultsA P fz rs q.2.1 q.2.2) fun r => some (q.1 :: r.1, r.2) := by
 simp only [resultsA, resultA, adrT_tmp, oB]
 unfold resK
 generalize adrOf a (getT env a) = v
 cases v <;> try rfl
 ·rename_i id off
  simp only
  cases S.get id with
  | none => rfl
  | some o =>
   cases o <;> try rfl
   rename_i cs
   simp only
   cases takeCells P t off cs with
   | none => rfl
   | some q => simp only [Option.map_some]; cases resultsA P fz rs env (frzV fz (S.put id (.cells q.2)) q.1).2 <;> rfl
 ·rename_i s off
  simp only
  cases env.getD s .undef <;> try rfl
  rename_i cs
  simp only
  cases takeCells P t off cs with
  | none => rfl
  | some q => simp only [Option.map_some]; cases resultsA P fz rs (env.set s (.box q.2)) (frzV fz S q.1).2 <;> rfl
theorem resK_ptr (fz : Bool) (t : TypeId) (id off : Nat) (env : List AV) (S : Sto) : resK P fz t (.ptr id off) env S = oB (cellsOf (S.get id)) fun cs => oB (takeCells P t off cs) fun r => some ((frzV fz (S.put id (.cells r.2)) r.1).1, env, (frzV fz (S.put id (.cells r.2)) r.1).2) := by
 simp only [resK, oB]
 cases S.get id with
 | none => rfl
 | some o =>
  cases o <;> try rfl
  rename_i cs
  simp only [cellsOf]
  cases takeCells P t off cs <;> rfl
theorem resK_lptr (fz : Bool) (t : TypeId) (s off : Nat) (env : List AV) (S : Sto) : resK P fz t (.lptr s off) env S = oB (boxOf (getT env s)) fun cs => oB (takeCells P t off cs) fun r => some ((frzV fz S r.1).1, setT env s (.box r.2), (frzV fz S r.1).2) := by
 simp only [resK, oB, getT_eq, setT_eq]
 cases getT env s <;> try rfl
 rename_i cs
 simp only [boxOf]
 cases takeCells P t off cs <;> rfl
theorem oneOf_one (v : AV) : oneOf [v] = v := (rfl)
theorem oneOf_nil : oneOf [] = .undef := (rfl)
theorem oneOf_two (v w : AV) (r : List AV) : oneOf (v :: w :: r) = .tup (v :: w :: r) := (rfl)
theorem freeAt_nil (env : List AV) (S : Sto) : freeAt env [] S = S := (rfl)
def Big (Q : Nat → Prop) : Prop := ∃ n0, ∀ n, n0 ≤ n → Q n
theorem Big.of {Q : Nat → Prop} (h : ∀ n, Q n) : Big Q := ⟨0, fun n _ => h n⟩
theorem Big.mono {Q R : Nat → Prop} (h : Big Q) (hr : ∀ n, Q n → R n) : Big R := let ⟨n0, hq⟩ := h; ⟨n0, fun n hn => hr n (hq n hn)⟩
theorem Big.and {Q R : Nat → Prop} (h : Big Q) (h' : Big R) : Big fun n => Q n ∧ R n :=
 let ⟨n0, hq⟩ := h; let ⟨n1, hr⟩ := h'; ⟨max n0 n1, fun n hn => ⟨hq n (by omega), hr n (by omega)⟩⟩
theorem Big.ge (k : Nat) : Big fun n => k ≤ n := ⟨k, fun _ h => h⟩
theorem Big.succ {Q : Nat → Prop} (h : Big fun n => Q (n + 1)) : Big Q := by
 obtain ⟨n0, hq⟩ := h
 refine ⟨n0 + 1, fun n hn => ?_⟩
 obtain ⟨k, rfl⟩ : ∃ k, n = k + 1 := ⟨n - 1, by omega⟩
 exact hq k (by omega)
theorem Big.all {α : Type} {Q : α → Nat → Prop} : ∀ {l : List α}, (∀ x ∈ l, Big (Q x)) → Big fun n => ∀ x ∈ l, Q x n
 | [], _ => Big.of (fun _ _ h => by cases h)
 | a :: l, h => by
  refine ((h a (by simp)).and (Big.all (l := l) fun x hx => h x (by simp [hx]))).mono fun n ⟨h1, h2⟩ x hx => ?_
  rcases List.mem_cons.1 hx with rfl | hx
  ·exact h1
  ·exact h2 x hx
theorem call_func {n : Nat} {args : List AV} {S : Sto} (hf : pol.free f = false) : (handler P pol (n + 1)).call (.func f) args S = (runFn P (handler P pol n) n pol f .none args S).map fun r => (r.1, r.2.2) := by
 simp only [handler, hf, Bool.false_eq_true, if_false]
theorem call_yield {n id : Nat} {args : List AV} {S : Sto} : (handler P pol (n + 1)).call (.yield id) args S = runYield P (handler P pol n) n pol id args S := (rfl)
theorem big_call {args : List AV} {e : AEnd} {S' : Sto → Sto} {p : AMode} (hf : pol.free f = false) (h : Big fun n => ∀ S, runFn P (handler P pol n) n pol f .none args S = some (e, p, S' S)) :
  Big fun n => ∀ S, (handler P pol n).call (.func f) args S = some (e, S' S) :=
 Big.succ (h.mono fun n hn S => by rw [call_func hf, hn S]; rfl)
theorem big_call' {args : List AV} {e : AEnd} {R : Sto → Prop} {S' : Sto → Sto} {p : AMode} (hf : pol.free f = false) (h : Big fun n => ∀ S, R S → runFn P (handler P pol n) n pol f .none args S = some (e, p, S' S)) :
  Big fun n => ∀ S, R S → (handler P pol n).call (.func f) args S = some (e, S' S) :=
 Big.succ (h.mono fun n hn S hS => by rw [call_func hf, hn S hS]; rfl)
theorem loop_run {keep : Option (List Bool)} {body : St → Option (AExit × St)} (E : Nat → St) : ∀ (m N : Nat) {st : St}, m < N → st.masked keep = E 0 →
  (∀ k, k < m → ∃ st', body (E k) = some (.normal, st') ∧ st'.masked keep = E (k + 1)) →
  loopN keep body N st = (match body (E m) with | some (.normal, st') => loopN keep body (N - m - 1) st' | r => r)
 | 0, N, st, hN, h0, _ => by
  obtain ⟨N', rfl⟩ : ∃ k, N = k + 1 := ⟨N - 1, by omega⟩
  show (match body (st.masked keep) with | some (.normal, st') => loopN keep body N' st' | r => r) = _
  rw [h0]
  rfl
 | m + 1, N, st, hN, h0, hs => by
  obtain ⟨N', rfl⟩ : ∃ k, N = k + 1 := ⟨N - 1, by omega⟩
  obtain ⟨st', h1, h2⟩ := hs 0 (by omega)
  have ih := loop_run (fun k => E (k + 1)) m N' (st := st') (by omega) h2 (fun k hk => hs (k + 1) (by omega))
  have hu : loopN keep body (N' + 1) st = loopN keep body N' st' := by
   show (match body (st.masked keep) with | some (.normal, st') => loopN keep body N' st' | r => r) = _
   rw [h0, h1]
  rw [hu, ih]
  have e : N' + 1 - (m + 1) - 1 = N' - m - 1 := by omega
  rw [e]
theorem loop_end {keep : Option (List Bool)} {body : St → Option (AExit × St)} {N m : Nat} {st : St} {r : Option (AExit × St)} (E : Nat → St) (hN : m < N) (h0 : st.masked keep = E 0)
  (hs : ∀ k, k < m → ∃ st', body (E k) = some (.normal, st') ∧ st'.masked keep = E (k + 1)) (he : body (E m) = r) (hr : ∀ st', r ≠ some (.normal, st')) : loopN keep body N st = r := by
 rw [loop_run E m N hN h0 hs, he]
 cases r with
 | none => rfl
 | some xs =>
  obtain ⟨x, st'⟩ := xs
  cases x <;> first | rfl | exact absurd rfl (hr st')
def stepOK (keep : Option (List Bool)) (r : Option (AExit × St)) (E : St) : Prop := match r with
 | some (.normal, st') => st'.masked keep = E
 | _ => False
@[congr] theorem stepOK_congr {keep : Option (List Bool)} {r r' : Option (AExit × St)} {E : St} (h : r = r') : stepOK keep r E = stepOK keep r' E := by rw [h]
theorem stepOK_normal {keep : Option (List Bool)} {st' E : St} : stepOK keep (some (.normal, st')) E = (st'.masked keep = E) := (rfl)
def contK (r : Option (AExit × St)) (k : St → Option (AExit × St)) : Option (AExit × St) := match r with | some (.normal, st') => k st' | r => r
@[congr] theorem contK_congr {r r' : Option (AExit × St)} {k : St → Option (AExit × St)} (h : r = r') : contK r k = contK r' k := by rw [h]
theorem contK_ret (st : St) (k : St → Option (AExit × St)) : contK (some (.ret, st)) k = some (.ret, st) := (rfl)
theorem contK_exit (i : Nat) (st : St) (k : St → Option (AExit × St)) : contK (some (.exit i, st)) k = some (.exit i, st) := (rfl)
theorem contK_goto (i : Nat) (st : St) (k : St → Option (AExit × St)) : contK (some (.goto i, st)) k = some (.goto i, st) := (rfl)
theorem contK_pan (ch : List APan) (st : St) (k : St → Option (AExit × St)) : contK (some (.pan ch, st)) k = some (.pan ch, st) := (rfl)
theorem loop_go {keep : Option (List Bool)} {body : St → Option (AExit × St)} (E : Nat → St) (m : Nat) {N : Nat} {st : St} (hN : m < N) (h0 : st.masked keep = E 0)
  (hs : ∀ k, k < m → stepOK keep (body (E k)) (E (k + 1))) : loopN keep body N st = contK (body (E m)) fun st' => loopN keep body (N - m - 1) st' := by
 refine loop_run E m N hN h0 fun k hk => ?_
 have := hs k hk
 unfold stepOK at this
 split at this
 ·rename_i st' h; exact ⟨st', h, this⟩
 ·exact this.elim
def envOf : Nat → List (Nat × AV) → List AV
 | n, [] => List.replicate n .unk
 | n, (t, v) :: l => setT (envOf n l) t v
theorem envOf_nil (n : Nat) : envOf n [] = List.replicate n .unk := (rfl)
theorem envOf_cons (n t : Nat) (v : AV) (l : List (Nat × AV)) : envOf n ((t, v) :: l) = setT (envOf n l) t v := (rfl)
theorem call_free {n : Nat} {args : List AV} {S : Sto} {v : AV} {p : AMode} (hf : pol.free f = true) (ha : args ≠ []) (h : ∀ S, runFn P (handler P pol n) n pol f .none args S = some (.ret v, p, S)) :
  (handler P pol (n + 1)).call (.func f) args S = some (.ret v, S) := by
 simp only [handler]
 rw [if_pos hf]
 cases args with
 | nil => exact absurd rfl ha
 | cons a as => simp only [h]
theorem masked_some (st : St) (ks : List Bool) : st.masked (some ks) = { st with env := maskE ks st.env } := (rfl)
theorem maskE_t (ks : List Bool) (v : AV) (vs : List AV) : maskE (true :: ks) (v :: vs) = v :: maskE ks vs := (rfl)
theorem maskE_f (ks : List Bool) (v : AV) (vs : List AV) : maskE (false :: ks) (v :: vs) = .unk :: maskE ks vs := (rfl)
theorem maskE_nil (vs : List AV) : maskE [] vs = vs := by cases vs <;> rfl
theorem maskE_end (ks : List Bool) : maskE ks [] = [] := by cases ks with | nil => rfl | cons k ks => cases k <;> rfl
def sv {X : Type} (own : Bool) (es : Nat) (g : X → List AV) : Option (List X) → AV
 | none => .nilsl
 | some xs => .sl own es (xs.map g)
def ol {X : Type} (o : Option (List X)) : List X := o.getD []
theorem slA_sv {X : Type} (es : Nat) (g : X → List AV) (o : Option (List X)) : slA es g o = sv false es g o := by cases o <;> rfl
section sv
variable {X : Type} {own : Bool} {es : Nat} {g : X → List AV} {o : Option (List X)}
theorem sv_none : sv own es g none = .nilsl := (rfl)
theorem sv_some (xs : List X) : sv own es g (some xs) = .sl own es (xs.map g) := (rfl)
theorem strip_sv : (sv own es g o).strip = sv false es g o := by cases o <;> rfl
theorem strip0_sv : (sv own es g o).strip0 = sv false es g o := by cases o <;> rfl
theorem strip1_sv : (sv own es g o).strip1 = sv false es g o := by cases o <;> rfl
theorem clr_sv : (sv own es g o).clr = sv own es g o := by cases o <;> rfl
theorem noLp_sv : (sv own es g o).noLp = sv own es g o := by cases o <;> rfl
theorem okTop_sv : okTop (sv own es g o) = true := by cases o <;> rfl
theorem cells_sv : (sv own es g o).cells = [sv own es g o] := by cases o <;> rfl
theorem isAgg_sv : isAggV (sv own es g o) = false := by cases o <;> rfl
theorem adrOf_sv (t : Nat) : adrOf t (sv own es g o) = sv own es g o := by cases o <;> rfl
theorem lpAt_sv (s : Nat) : lpAt s (sv own es g o) = true := by cases o <;> rfl
theorem lenA_sv {S : Sto} {t e : TypeId} (ht : P.underlying t = some (.slice e)) : lenA P S t (sv own es g o) = some (.int .i64 (ol o).length) := by
 cases o <;> simp [lenA, ht, sv, ol]
theorem index_sv {t e : TypeId} (ht : P.underlying t = some (.slice e)) (he : P.cellsOf e = es) {i : Nat} (k : IntKind) {x : X} (hx : (ol o)[i]? = some x) : indexAddrA P t (sv own es g o) (.int k i) = some (.fptr (g x)) := by
 cases o with
 | none => simp [ol] at hx
 | some xs =>
  have hlt := (List.getElem?_eq_some_iff.1 hx).1
  have hx' : xs[i]? = some x := hx
  have hlt' : i < xs.length := hlt
  have h0 : (0 : Int) ≤ (i : Int) ∧ (i : Int) < ((List.map g xs).length : Int) ∧ es = P.cellsOf e := ⟨by omega, by simp; omega, he.symm⟩
  simp only [indexAddrA, ht, sv]
  rw [if_pos h0]
  simp [hx']
theorem eqnil_sv {t : TypeId} {lit : Bool} {e : TypeId} (ht : P.underlying t = some (.slice e)) : binA P .eql t lit (sv own es g o) .nilsl = some (.bool o.isNone) := by
 cases o <;> simp [binA, sv, eqA, ht, Op.maxDepth]
end sv
theorem bytes_of (bs : List UInt8) : bytesOf? (bs.map byteRow) = some bs := by
 induction bs with
 | nil => rfl
 | cons b bs ih =>
  simp only [List.map_cons, bytesOf?, byteRow, byteOf?, ih]
  simp
theorem rowsOf_sv {X : Type} {own : Bool} {es : Nat} {g : X → List AV} {o : Option (List X)} : rowsOf es (sv own es g o) = some ((ol o).map g) := by
 cases o <;> simp [rowsOf, sv, ol]
theorem rowsOf_str (s : List UInt8) : rowsOf 1 (.str s) = some (s.map byteRow) := (rfl)
theorem rowsIn_sv {X : Type} {S : Sto} {own : Bool} {es : Nat} {g : X → List AV} {o : Option (List X)} : rowsIn S es (sv own es g o) = some ((ol o).map g) := by
 cases o <;> simp [rowsIn, rowsOf, sv, ol]
theorem more_slice {S : Sto} {e xt : TypeId} {d : TypeDesc} {v : AV} (h : P.underlying xt = some d) (hd : ∀ k, d ≠ .int k) : moreA P S e xt v = rowsIn S (P.cellsOf e) v := by
 unfold moreA
 rw [h]
 cases d <;> first | rfl | exact absurd rfl (hd _)
theorem appInline_own {e : TypeId} {rows more : List (List AV)} (hb : ¬ bigA P e (rows.length + more.length)) : appInline P e (.sl true (P.cellsOf e) rows) more = some (.sl true (P.cellsOf e) (rows ++ more)) := by
 cases more with
 | nil => simp [appInline]
 | cons m ms =>
  simp only [appInline]
  rw [if_neg]
  rintro (h | h | h)
  ·exact h rfl
  ·cases h
  ·exact hb h
theorem app_own {how : Nat} {st xt e : TypeId} {es : Nat} {d : TypeDesc} {rows more : List (List AV)} {v : AV} {s : St} {z : AV} (h1 : P.underlying st = some (.slice e)) (h2 : P.underlying xt = some d) (hd : ∀ k, d ≠ .int k) (hz : zeroA P e = some z) (hzl : z.cells.length = es) (hes : P.cellsOf e = es)
  (hh : how = 1) (hm : rowsIn s.S es v = some more) (hb : ¬ bigA P e (rows.length + more.length)) : appendS P how st xt (.sl true es rows) v s = some (.val (.sl true es (rows ++ more)) s) := by
 subst hes hh
 unfold appendS
 simp only [h1, hz, if_pos hzl]
 rw [if_neg (show ¬ (1 = 0) by decide), more_slice h2 hd, hm]
 simp only [if_neg (show ¬ (1 = 2) by decide), appInline_own hb, Option.map_some]
theorem eql_sl_nil {t e : TypeId} {lit : Bool} {own : Bool} {es : Nat} {rows : List (List AV)} (ht : P.underlying t = some (.slice e)) : binA P .eql t lit (.sl own es rows) .nilsl = some (.bool false) := by simp [binA, eqA, ht, Op.maxDepth]
theorem eql_nil_nil {t e : TypeId} {lit : Bool} (ht : P.underlying t = some (.slice e)) : binA P .eql t lit .nilsl .nilsl = some (.bool true) := by simp [binA, eqA, ht, Op.maxDepth]
attribute [simp] rowsOf_sv rowsIn_sv rowsOf_str eql_sl_nil eql_nil_nil arrK
attribute [simp] stepOK_normal contK_ret contK_exit contK_goto contK_pan envOf_nil envOf_cons ifaceK finK_normal finK_ret finK_pan unwind_nil endK_ret endK_pan resultsA_nil frzA_no frzA_nil frzV_no frzV_agg frzV_rsl frzV_int frzV_nil frzCells_nil frzCells_cons frzA_int frzA_bool frzA_str frzA_sl resultsA_tmp resultsA_cell resK_ptr resK_lptr oneOf_one oneOf_nil oneOf_two freeAt_nil masked_some maskE_t maskE_f maskE_nil maskE_end
attribute [simp] strip_sv strip0_sv strip1_sv clr_sv noLp_sv okTop_sv cells_sv isAgg_sv adrOf_sv lpAt_sv lenA_sv eqnil_sv bytes_of
end Go.Ab
namespace Go.Ab
variable {P : Program} {H : Handler} {pol : Pol} {f : FuncId} {N : Nat} {round : Option Nat}
theorem free_handler (pol : Pol) : ∀ n, (handler P pol n).free = pol.free
 | 0 => rfl
 | _ + 1 => rfl
def drawFull (pol : Pol) (f : FuncId) (id : Nat) (ops : Array Oper) : Bool := match pol.orders f id with
 | l :: ws => drawAll pol.free pol f id ops l ws []
 | [] => false
def nbK {α : Type} (v : AV) (x : Option α) : Option α := match v with | .box _ => none | _ => x
@[congr] theorem nbK_congr {α : Type} {v v' : AV} {x : Option α} (h : v = v') : nbK v x = nbK v' x := by rw [h]
def nbO {α : Type} (pol : Pol) (f : FuncId) (o : Oper) (v : AV) (x : Option α) : Option α := match v with | .box _ => bif locA pol f o then x else none | _ => x
@[congr] theorem nbO_congr {α : Type} {o : Oper} {v v' : AV} {x : Option α} (h : v = v') : nbO pol f o v x = nbO pol f o v' x := by rw [h]
def sK {α : Type} (ok : Bool) (S S' : Sto) (x : Option α) : Option α := if ok || sameOld S S' then x else none
@[congr] theorem sK_congr {α : Type} {ok ok' : Bool} {S S' : Sto} {x : Option α} (h : ok = ok') : sK ok S S' x = sK ok' S S' x := by rw [h]
theorem sK_true {α : Type} (S S' : Sto) (x : Option α) : sK true S S' x = x := (rfl)
theorem sK_same {α : Type} {S S' : Sto} (h : sameOld S S' = true) (x : Option α) : sK false S S' x = x := by simp [sK, h]
def fK {α : Type} (q : Option (List Nat)) (env : List AV) (S S' : Sto) (x : Option α) : Option α := match q with
 | none => x
 | some fx => bif sameFix env fx S S' then x else none
@[congr] theorem fK_congr {α : Type} {q q' : Option (List Nat)} {env : List AV} {S S' : Sto} {x : Option α} (h : q = q') : fK q env S S' x = fK q' env S S' x := by rw [h]
theorem fK_none {α : Type} (env : List AV) (S S' : Sto) (x : Option α) : fK none env S S' x = x := (rfl)
theorem fK_same {α : Type} {fx : List Nat} {env : List AV} {S S' : Sto} (h : sameFix env fx S S' = true) (x : Option α) : fK (some fx) env S S' x = x := by simp [fK, h]
def cKD (ok : Bool) (q : Option (List Nat)) (r : Option (AEnd × Sto)) (st : St) (k : AV → St → Option (AExit × St)) : Option (AExit × St) := match r with
 | none => none
 | some (.ret v, S') => nbK v (sK ok st.S S' (fK q st.env st.S S' (k v { st with S := S' })))
 | some (.pan ch, S') => some (.pan ch, { st with S := S' })
@[congr] theorem cKD_congr {ok ok' : Bool} {q q' : Option (List Nat)} {r r' : Option (AEnd × Sto)} {st : St} {k : AV → St → Option (AExit × St)} (ho : ok = ok') (hq : q = q') (h : r = r') : cKD ok q r st k = cKD ok' q' r' st k := by rw [h, ho, hq]
theorem cKD_ret (ok : Bool) (q : Option (List Nat)) (v : AV) (S' : Sto) (st : St) (k : AV → St → Option (AExit × St)) : cKD ok q (some (.ret v, S')) st k = nbK v (sK ok st.S S' (fK q st.env st.S S' (k v { st with S := S' }))) := (rfl)
theorem cKD_pan (ok : Bool) (q : Option (List Nat)) (ch : List APan) (S' : Sto) (st : St) (k : AV → St → Option (AExit × St)) : cKD ok q (some (.pan ch, S')) st k = some (.pan ch, { st with S := S' }) := (rfl)
def wK {α : Type} (b : Bool) (x : Option α) : Option α := bif b then x else none
@[congr] theorem wK_congr {α : Type} {b b' : Bool} {x : Option α} (h : b = b') : wK b x = wK b' x := by rw [h]
theorem wK_true {α : Type} (x : Option α) : wK true x = x := (rfl)
def rKD (H : Handler) (pol : Pol) (f : FuncId) (o : Oper) (ok : Bool) (q : Option (List Nat)) (ow : Bool) (r : OR) (k : AV → St → Option (AExit × St)) : Option (AExit × St) := match r with
 | .val v st' => nbO pol f o v (wK ow (k v st'))
 | .pan ch st' => some (.pan ch, st')
 | .call t as st' => cKD ok q (H.call t as st'.S) st' k
@[congr] theorem rKD_congr {o : Oper} {ok : Bool} {q : Option (List Nat)} {ow ow' : Bool} {r r' : OR} {k : AV → St → Option (AExit × St)} (hw : ow = ow') (h : r = r') : rKD H pol f o ok q ow r k = rKD H pol f o ok q ow' r' k := by rw [h, hw]
theorem rKD_val (o : Oper) (ok : Bool) (q : Option (List Nat)) (ow : Bool) (v : AV) (st : St) (k : AV → St → Option (AExit × St)) : rKD H pol f o ok q ow (.val v st) k = nbO pol f o v (wK ow (k v st)) := (rfl)
theorem rKD_pan (o : Oper) (ok : Bool) (q : Option (List Nat)) (ow : Bool) (ch : List APan) (st : St) (k : AV → St → Option (AExit × St)) : rKD H pol f o ok q ow (.pan ch st) k = some (.pan ch, st) := (rfl)
theorem rKD_call (o : Oper) (ok : Bool) (q : Option (List Nat)) (ow : Bool) (t : Tgt) (as : List AV) (st : St) (k : AV → St → Option (AExit × St)) : rKD H pol f o ok q ow (.call t as st) k = cKD ok q (H.call t as st.S) st k := (rfl)
def okD (free : FuncId → Bool) (need : List Nat) (i : Nat) (o : Oper) : Bool := bif need.contains i then freeCall free o else true
def fixD (free : FuncId → Bool) (nf : List Nat × List Nat) (i : Nat) (o : Oper) : Option (List Nat) := bif nf.1.contains i then (bif freeCall free o then none else some nf.2) else none
theorem fixD_nil {free : FuncId → Bool} {fx : List Nat} {i : Nat} {o : Oper} : fixD free ([], fx) i o = none := (rfl)
theorem fixD_no {free : FuncId → Bool} {l fx : List Nat} {i : Nat} {o : Oper} (h : l.contains i = false) : fixD free (l, fx) i o = none := by unfold fixD; rw [h]; rfl
theorem fixD_yes {free : FuncId → Bool} {l fx : List Nat} {i : Nat} {o : Oper} (h : l.contains i = true) : fixD free (l, fx) i o = bif freeCall free o then none else some fx := by unfold fixD; rw [h]; rfl
theorem ownOK_nil (i : Nat) (o : Oper) (env : List AV) : ownOK [] [] i o env = true := (rfl)
def lpK (b : Bool) : AV → Bool
 | .lptr _ _ => b
 | _ => !b
theorem ownOK_no {ow hp : List Nat} {i : Nat} {o : Oper} {env : List AV} (h : ow.contains i = false) (h' : hp.contains i = false) : ownOK ow hp i o env = true := by unfold ownOK; rw [h, h']; rfl
theorem ownOK_load {ow hp : List Nat} {i : Nat} {d : Option Tmp} {t : TypeId} {a : Operand} {ty : TypeId} {po : String} {af : Array Edge} {gd : Option (Nat × Bool)} {env : List AV} : ownOK ow hp i ⟨d, .load t a, ty, po, af, gd⟩ env = ((!ow.contains i || lpK true (adr env a)) && (!hp.contains i || lpK false (adr env a))) := by
 simp only [ownOK, lpOp, plcOf]
 cases adr env a <;> rfl
theorem ownOK_store {ow hp : List Nat} {i : Nat} {d : Option Tmp} {t : TypeId} {a x : Operand} {ty : TypeId} {po : String} {af : Array Edge} {gd : Option (Nat × Bool)} {env : List AV} : ownOK ow hp i ⟨d, .store t a x, ty, po, af, gd⟩ env = ((!ow.contains i || lpK true (adr env a)) && (!hp.contains i || lpK false (adr env a))) := by
 simp only [ownOK, lpOp, plcOf]
 cases adr env a <;> rfl
def evLD (P : Program) (H : Handler) (pol : Pol) (f : FuncId) (all : List Oper) (need : List Nat) (nf : List Nat × List Nat) (ow hp : List Nat) (pl : List Tmp) : List Nat → St → Option (AExit × St)
 | [], st => some (.normal, { st with env := wipe st.env pl })
 | i :: rest, st => oB (opAt all i) fun o => wantedL all o st.env
   (oB (opA P pol f pl o st) fun r => rKD H pol f o (okD H.free need i o) (fixD H.free nf i o) (ownOK ow hp i o st.env) r fun v st' => evLD P H pol f all need nf ow hp pl rest (st'.puts o.dst (leftA o v)))
   (evLD P H pol f all need nf ow hp pl rest (st.puts o.dst .undef))
theorem evLD_nil {all : List Oper} {need nf ow hp pl} (st : St) : evLD P H pol f all need nf ow hp pl [] st = some (.normal, { st with env := wipe st.env pl }) := (rfl)
theorem evLD_cons {all : List Oper} {need : List Nat} {nf : List Nat × List Nat} {ow hp : List Nat} {pl : List Tmp} (i : Nat) (rest : List Nat) (st : St) : evLD P H pol f all need nf ow hp pl (i :: rest) st = oB (opAt all i) fun o => wantedL all o st.env
   (oB (opA P pol f pl o st) fun r => rKD H pol f o (okD H.free need i o) (fixD H.free nf i o) (ownOK ow hp i o st.env) r fun v st' => evLD P H pol f all need nf ow hp pl rest (st'.puts o.dst (leftA o v)))
   (evLD P H pol f all need nf ow hp pl rest (st.puts o.dst .undef)) := (rfl)
theorem evOpsD_evLD {ops : Array Oper} {need : Need} {pl : List Tmp} : ∀ (l : List Nat) (st : St), evOpsD P H pol f ops need pl l st = evLD P H pol f ops.toList need.strict (need.fix, need.fx) need.own need.hp pl l st
 | [], st => rfl
 | i :: l, st => by
  have ih := evOpsD_evLD (ops := ops) (need := need) (pl := pl) l
  rw [evLD_cons]
  show (match evOne P H pol f ops need pl i st with
   | some (.normal, st') => evOpsD P H pol f ops need pl l st'
   | r => r) = _
  unfold evOne
  rw [← opAt_eq, Array.getElem?_toList]
  cases ops[i]? with
  | none => rfl
  | some o =>
   rw [oB_some, ← wantedL_eq]
   simp only [opK_eq]
   unfold wantedK
   cases wantedA ops o st.env with
   | none => rfl
   | some w =>
    cases w with
    | false => exact ih _
    | true =>
     simp only
     cases opA P pol f pl o st with
     | none => rfl
     | some r =>
      rw [oB_some]
      cases r with
      | val v st' =>
       simp only [rKD]
       cases ownOK need.own need.hp i o st.env <;> cases v <;> simp only [notBox, nbO, wK, Bool.true_or, Bool.false_or, Bool.and_true, Bool.and_false, if_true, cond_true, cond_false] <;> first | exact ih _ | rfl | (cases locA pol f o <;> first | exact ih _ | rfl)
      | pan ch st' => rfl
      | call t as st' =>
       simp only [rKD]
       cases H.call t as st'.S with
       | none => rfl
       | some eS =>
        obtain ⟨e, S'⟩ := eS
        cases e with
        | pan ch => rfl
        | ret v =>
         simp only [cKD]
         have hok : (!need.strict.contains i || freeCall H.free o || sameOld st'.S S') = (okD H.free need.strict i o || sameOld st'.S S') := by
          unfold okD
          cases need.strict.contains i <;> rfl
         rw [hok]
         have hfx : ∀ x : Option (AExit × St), fK (fixD H.free (need.fix, need.fx) i o) st'.env st'.S S' x = if (!need.fix.contains i || freeCall H.free o || sameFix st'.env need.fx st'.S S') = true then x else none := by
          intro x
          unfold fixD
          cases need.fix.contains i <;> cases freeCall H.free o <;> simp [fK]
         rw [hfx]
         unfold sK
         cases hc : (okD H.free need.strict i o || sameOld st'.S S') <;> cases hc2 : (!need.fix.contains i || freeCall H.free o || sameFix st'.env need.fx st'.S S')
         ·cases v <;> rfl
         ·cases v <;> rfl
         ·cases v <;> rfl
         ·cases v <;> simp only [notBox, nbK, Bool.and_true, Bool.and_self, if_true] <;> first | exact ih _ | rfl
def dK (pol : Pol) (f : FuncId) (ops : Array Oper) (r : Option (AExit × St)) : Option (AExit × St) := match r with
 | some (.pan ch, st') => if ops.toList.any (locA pol f) then none else some (.pan ch, { st' with env := maskD pol f ops st'.env })
 | r => r
@[congr] theorem dK_congr {ops : Array Oper} {r r' : Option (AExit × St)} (h : r = r') : dK pol f ops r = dK pol f ops r' := by rw [h]
theorem dK_normal {ops : Array Oper} (st : St) : dK pol f ops (some (.normal, st)) = some (.normal, st) := (rfl)
theorem dK_pan {ops : Array Oper} (ch : List APan) (st : St) : dK pol f ops (some (.pan ch, st)) = if ops.toList.any (locA pol f) then none else some (.pan ch, { st with env := maskD pol f ops st.env }) := (rfl)
def bxK {α : Type} (b : Bool) (x : Option α) : Option α := bif b then x else none
@[congr] theorem bxK_congr {α : Type} {b b' : Bool} {x : Option α} (h : b = b') : bxK b x = bxK b' x := by rw [h]
theorem bxK_true {α : Type} (x : Option α) : bxK true x = x := (rfl)
def nbAt (env : List AV) : List Tmp → Bool
 | [] => true
 | t :: ts => nb1 (getT env t) (nbAt env ts)
 where nb1 (v : AV) (b : Bool) : Bool := match v with | .box _ => false | _ => b
theorem nbAt_nil (env : List AV) : nbAt env [] = true := (rfl)
theorem nbAt_cons (env : List AV) (t : Tmp) (ts : List Tmp) : nbAt env (t :: ts) = nbAt.nb1 (getT env t) (nbAt env ts) := (rfl)
theorem nbAt_eq (env : List AV) : ∀ ts, noBoxAt env ts = nbAt env ts
 | [] => rfl
 | t :: ts => by
  rw [nbAt_cons, ← nbAt_eq env ts, ← getT_eq]
  show ((match env.getD t .undef with | .box _ => false | _ => true) && noBoxAt env ts) = _
  cases env.getD t .undef <;> simp [nbAt.nb1]
theorem evDraw_go {n id : Nat} {l : List Oper} {st : St} (h : drawFull pol f id l.toArray = true) (hfan : pol.fan f id = none) :
  evDraw P (handler P pol n) pol f id l.toArray st = bxK (nbAt st.env (pol.wr f id)) (dK pol f l.toArray (evLD P (handler P pol n) pol f l (pol.need f id) (pol.needF f id) (pol.own f id) (pol.hp f id) (plL l) ((pol.orders f id).headD []) st)) := by
 unfold drawFull at h
 unfold evDraw
 rw [free_handler]
 cases ho : pol.orders f id with
 | nil => rw [ho] at h; cases h
 | cons o ws =>
  rw [ho] at h
  simp only at h ⊢
  rw [hfan]
  simp only
  rw [h, Bool.true_and, nbAt_eq, evOpsD_evLD, plL_eq]
  cases nbAt st.env (pol.wr f id) <;> rfl
theorem nbK_unk {α : Type} (x : Option α) : nbK .unk x = x := (rfl)
theorem nbK_bool {α : Type} (b : Bool) (x : Option α) : nbK (.bool b) x = x := (rfl)
theorem nbK_int {α : Type} (k : IntKind) (n : Int) (x : Option α) : nbK (.int k n) x = x := (rfl)
theorem nbK_str {α : Type} (s : List UInt8) (x : Option α) : nbK (.str s) x = x := (rfl)
theorem nbK_nilptr {α : Type} (x : Option α) : nbK .nilptr x = x := (rfl)
theorem nbK_ptr {α : Type} (i o : Nat) (x : Option α) : nbK (.ptr i o) x = x := (rfl)
theorem nbK_fptr {α : Type} (cs : List AV) (x : Option α) : nbK (.fptr cs) x = x := (rfl)
theorem nbK_lptr {α : Type} (s o : Nat) (x : Option α) : nbK (.lptr s o) x = x := (rfl)
theorem nbK_nilsl {α : Type} (x : Option α) : nbK .nilsl x = x := (rfl)
theorem nbK_sl {α : Type} (w : Bool) (es : Nat) (rs : List (List AV)) (x : Option α) : nbK (.sl w es rs) x = x := (rfl)
theorem nbK_rsl {α : Type} (a b c d : Nat) (x : Option α) : nbK (.rsl a b c d) x = x := (rfl)
theorem nbK_aptr {α : Type} (a b c : Nat) (x : Option α) : nbK (.aptr a b c) x = x := (rfl)
theorem nbK_nilmap {α : Type} (x : Option α) : nbK .nilmap x = x := (rfl)
theorem nbK_map {α : Type} (i : Nat) (x : Option α) : nbK (.map i) x = x := (rfl)
theorem nbK_nilfn {α : Type} (x : Option α) : nbK .nilfn x = x := (rfl)
theorem nbK_fn {α : Type} (g : Fn) (a b : List AV) (x : Option α) : nbK (.fn g a b) x = x := (rfl)
theorem nbK_yld {α : Type} (i : Nat) (x : Option α) : nbK (.yld i) x = x := (rfl)
theorem nbK_niliface {α : Type} (x : Option α) : nbK .niliface x = x := (rfl)
theorem nbK_iface {α : Type} (t : TypeId) (v : AV) (x : Option α) : nbK (.iface t v) x = x := (rfl)
theorem nbK_agg {α : Type} (cs : List AV) (x : Option α) : nbK (.agg cs) x = x := (rfl)
theorem nbK_tup {α : Type} (vs : List AV) (x : Option α) : nbK (.tup vs) x = x := (rfl)
theorem nbK_undef {α : Type} (x : Option α) : nbK .undef x = x := (rfl)
theorem nbK_sv {α X : Type} (own : Bool) (es : Nat) (g : X → List AV) (o : Option (List X)) (x : Option α) : nbK (sv own es g o) x = x := by cases o <;> rfl
theorem nbO_unk {α : Type} {o : Oper} (x : Option α) : nbO pol f o .unk x = x := (rfl)
theorem nbO_bool {α : Type} {o : Oper} (b : Bool) (x : Option α) : nbO pol f o (.bool b) x = x := (rfl)
theorem nbO_int {α : Type} {o : Oper} (k : IntKind) (n : Int) (x : Option α) : nbO pol f o (.int k n) x = x := (rfl)
theorem nbO_str {α : Type} {o : Oper} (s : List UInt8) (x : Option α) : nbO pol f o (.str s) x = x := (rfl)
theorem nbO_nilptr {α : Type} {o : Oper} (x : Option α) : nbO pol f o .nilptr x = x := (rfl)
theorem nbO_ptr {α : Type} {o : Oper} (i oo : Nat) (x : Option α) : nbO pol f o (.ptr i oo) x = x := (rfl)
theorem nbO_fptr {α : Type} {o : Oper} (cs : List AV) (x : Option α) : nbO pol f o (.fptr cs) x = x := (rfl)
theorem nbO_lptr {α : Type} {o : Oper} (s oo : Nat) (x : Option α) : nbO pol f o (.lptr s oo) x = x := (rfl)
theorem nbO_nilsl {α : Type} {o : Oper} (x : Option α) : nbO pol f o .nilsl x = x := (rfl)
theorem nbO_sl {α : Type} {o : Oper} (w : Bool) (es : Nat) (rs : List (List AV)) (x : Option α) : nbO pol f o (.sl w es rs) x = x := (rfl)
theorem nbO_rsl {α : Type} {o : Oper} (a b c d : Nat) (x : Option α) : nbO pol f o (.rsl a b c d) x = x := (rfl)
theorem nbO_aptr {α : Type} {o : Oper} (a b c : Nat) (x : Option α) : nbO pol f o (.aptr a b c) x = x := (rfl)
theorem nbO_nilmap {α : Type} {o : Oper} (x : Option α) : nbO pol f o .nilmap x = x := (rfl)
theorem nbO_map {α : Type} {o : Oper} (i : Nat) (x : Option α) : nbO pol f o (.map i) x = x := (rfl)
theorem nbO_nilfn {α : Type} {o : Oper} (x : Option α) : nbO pol f o .nilfn x = x := (rfl)
theorem nbO_fn {α : Type} {o : Oper} (g : Fn) (a b : List AV) (x : Option α) : nbO pol f o (.fn g a b) x = x := (rfl)
theorem nbO_yld {α : Type} {o : Oper} (i : Nat) (x : Option α) : nbO pol f o (.yld i) x = x := (rfl)
theorem nbO_niliface {α : Type} {o : Oper} (x : Option α) : nbO pol f o .niliface x = x := (rfl)
theorem nbO_iface {α : Type} {o : Oper} (t : TypeId) (v : AV) (x : Option α) : nbO pol f o (.iface t v) x = x := (rfl)
theorem nbO_agg {α : Type} {o : Oper} (cs : List AV) (x : Option α) : nbO pol f o (.agg cs) x = x := (rfl)
theorem nbO_tup {α : Type} {o : Oper} (vs : List AV) (x : Option α) : nbO pol f o (.tup vs) x = x := (rfl)
theorem nbO_undef {α : Type} {o : Oper} (x : Option α) : nbO pol f o .undef x = x := (rfl)
theorem nbO_sv {α X : Type} {o : Oper} (own : Bool) (es : Nat) (g : X → List AV) (ov : Option (List X)) (x : Option α) : nbO pol f o (sv own es g ov) x = x := by cases ov <;> rfl
theorem nbO_alloc {α : Type} {d : Tmp} {t ty : TypeId} {po : String} {af : Array Edge} {gd : Option (Nat × Bool)} (cs : List AV) (x : Option α) : nbO pol f ⟨some d, .alloc t, ty, po, af, gd⟩ (.box cs) x = bif pol.loc f d then x else none := (rfl)
theorem nbO_box {α : Type} {d : Tmp} {t ty : TypeId} {y : Operand} {po : String} {af : Array Edge} {gd : Option (Nat × Bool)} (cs : List AV) (x : Option α) : nbO pol f ⟨some d, .box t y, ty, po, af, gd⟩ (.box cs) x = bif pol.loc f d then x else none := (rfl)
theorem nb1_unk (b : Bool) : nbAt.nb1 .unk b = b := (rfl)
theorem nb1_bool (c : Bool) (b : Bool) : nbAt.nb1 (.bool c) b = b := (rfl)
theorem nb1_int (k : IntKind) (n : Int) (b : Bool) : nbAt.nb1 (.int k n) b = b := (rfl)
theorem nb1_str (s : List UInt8) (b : Bool) : nbAt.nb1 (.str s) b = b := (rfl)
theorem nb1_nilptr (b : Bool) : nbAt.nb1 .nilptr b = b := (rfl)
theorem nb1_ptr (i o : Nat) (b : Bool) : nbAt.nb1 (.ptr i o) b = b := (rfl)
theorem nb1_fptr (cs : List AV) (b : Bool) : nbAt.nb1 (.fptr cs) b = b := (rfl)
theorem nb1_lptr (s o : Nat) (b : Bool) : nbAt.nb1 (.lptr s o) b = b := (rfl)
theorem nb1_nilsl (b : Bool) : nbAt.nb1 .nilsl b = b := (rfl)
theorem nb1_sl (w : Bool) (es : Nat) (rs : List (List AV)) (b : Bool) : nbAt.nb1 (.sl w es rs) b = b := (rfl)
theorem nb1_rsl (x y c d : Nat) (b : Bool) : nbAt.nb1 (.rsl x y c d) b = b := (rfl)
theorem nb1_aptr (x y c : Nat) (b : Bool) : nbAt.nb1 (.aptr x y c) b = b := (rfl)
theorem nb1_nilmap (b : Bool) : nbAt.nb1 .nilmap b = b := (rfl)
theorem nb1_map (i : Nat) (b : Bool) : nbAt.nb1 (.map i) b = b := (rfl)
theorem nb1_nilfn (b : Bool) : nbAt.nb1 .nilfn b = b := (rfl)
theorem nb1_fn (g : Fn) (x y : List AV) (b : Bool) : nbAt.nb1 (.fn g x y) b = b := (rfl)
theorem nb1_yld (i : Nat) (b : Bool) : nbAt.nb1 (.yld i) b = b := (rfl)
theorem nb1_niliface (b : Bool) : nbAt.nb1 .niliface b = b := (rfl)
theorem nb1_iface (t : TypeId) (v : AV) (b : Bool) : nbAt.nb1 (.iface t v) b = b := (rfl)
theorem nb1_agg (cs : List AV) (b : Bool) : nbAt.nb1 (.agg cs) b = b := (rfl)
theorem nb1_tup (vs : List AV) (b : Bool) : nbAt.nb1 (.tup vs) b = b := (rfl)
theorem nb1_undef (b : Bool) : nbAt.nb1 .undef b = b := (rfl)
theorem nb1_sv {X : Type} (own : Bool) (es : Nat) (g : X → List AV) (o : Option (List X)) (b : Bool) : nbAt.nb1 (sv own es g o) b = b := by cases o <;> rfl
theorem okD_no {free : FuncId → Bool} {need : List Nat} {i : Nat} {o : Oper} (h : need.contains i = false) : okD free need i o = true := by unfold okD; rw [h]; rfl
theorem okD_yes {free : FuncId → Bool} {need : List Nat} {i : Nat} {o : Oper} (h : need.contains i = true) : okD free need i o = freeCall free o := by unfold okD; rw [h]; rfl
theorem freeCall_call {free : FuncId → Bool} {d : Option Tmp} {g : FuncId} {args : Array Operand} {ts : Array TypeId} {ty : TypeId} {po : String} {af : Array Edge} {gd : Option (Nat × Bool)} :
  freeCall free ⟨d, .call { callee := .value (.func g), args := args, argTypes := ts }, ty, po, af, gd⟩ = free g := rfl
attribute [simp] wK_true ownOK_nil fK_none fixD_nil sK_true cKD_ret cKD_pan rKD_val rKD_pan rKD_call evLD_nil evLD_cons dK_normal dK_pan bxK_true nbAt_nil nbAt_cons free_handler freeCall_call
attribute [simp] nbK_unk nbK_bool nbK_int nbK_str nbK_nilptr nbK_ptr nbK_fptr nbK_lptr nbK_nilsl nbK_sl nbK_rsl nbK_aptr nbK_nilmap nbK_map nbK_nilfn nbK_fn nbK_yld nbK_niliface nbK_iface nbK_agg nbK_tup nbK_undef nbK_sv
attribute [simp] nbO_unk nbO_bool nbO_int nbO_str nbO_nilptr nbO_ptr nbO_fptr nbO_lptr nbO_nilsl nbO_sl nbO_rsl nbO_aptr nbO_nilmap nbO_map nbO_nilfn nbO_fn nbO_yld nbO_niliface nbO_iface nbO_agg nbO_tup nbO_undef nbO_sv nbO_alloc nbO_box
attribute [simp] nb1_unk nb1_bool nb1_int nb1_str nb1_nilptr nb1_ptr nb1_fptr nb1_lptr nb1_nilsl nb1_sl nb1_rsl nb1_aptr nb1_nilmap nb1_map nb1_nilfn nb1_fn nb1_yld nb1_niliface nb1_iface nb1_agg nb1_tup nb1_undef nb1_sv
attribute [simp] ev_draw
end Go.Ab
namespace Go.Ab
theorem look_putIn_self {id : Nat} {o o' : Obj} : ∀ {h : List (Nat × Obj)}, Sto.look id h = some o' → Sto.look id (Sto.putIn id o h) = some o
 | [], h => by cases h
 | (i, x) :: r, h => by
  by_cases e : i = id
  ·simp [Sto.putIn, Sto.look, e]
  ·have : Sto.look id r = some o' := by simpa [Sto.look, e] using h
   simp [Sto.putIn, Sto.look, e, look_putIn_self this]
theorem look_putIn_ne {id id' : Nat} {o : Obj} (hne : id ≠ id') : ∀ {h : List (Nat × Obj)}, Sto.look id (Sto.putIn id' o h) = Sto.look id h
 | [] => rfl
 | (i, x) :: r => by
  by_cases e : i = id'
  ·subst e
   simp [Sto.putIn, Sto.look, Ne.symm hne]
  ·simp only [Sto.putIn, if_neg e, Sto.look, look_putIn_ne hne]
theorem putIn_putIn {id : Nat} {o o' : Obj} : ∀ {h : List (Nat × Obj)}, Sto.putIn id o (Sto.putIn id o' h) = Sto.putIn id o h
 | [] => rfl
 | (i, x) :: r => by
  by_cases e : i = id
  ·simp [Sto.putIn, e]
  ·simp [Sto.putIn, e, putIn_putIn]
theorem putIn_look {id : Nat} {o : Obj} : ∀ {h : List (Nat × Obj)}, Sto.look id h = some o → Sto.putIn id o h = h
 | [], h => by cases h
 | (i, x) :: r, h => by
  by_cases e : i = id
  ·subst e
   simp [Sto.look] at h
   simp [Sto.putIn, h]
  ·have : Sto.look id r = some o := by simpa [Sto.look, e] using h
   simp [Sto.putIn, e, putIn_look this]
theorem putIn_none {id : Nat} {o : Obj} : ∀ {h : List (Nat × Obj)}, Sto.look id h = none → Sto.putIn id o h = h
 | [], _ => rfl
 | (i, x) :: r, h => by
  by_cases e : i = id
  ·simp [Sto.look, e] at h
  ·have : Sto.look id r = none := by simpa [Sto.look, e] using h
   simp [Sto.putIn, e, putIn_none this]
theorem get_put_self {S : Sto} {id : Nat} {o o' : Obj} (h : S.get id = some o') : (S.put id o).get id = some o := look_putIn_self h
theorem get_put_ne {S : Sto} {id id' : Nat} {o : Obj} (h : id ≠ id') : (S.put id' o).get id = S.get id := look_putIn_ne h
theorem put_put (S : Sto) (id : Nat) (o o' : Obj) : (S.put id o').put id o = S.put id o := by simp [Sto.put, putIn_putIn]
theorem put_self {S : Sto} {id : Nat} {o : Obj} (h : S.get id = some o) : S.put id o = S := by
 have : Sto.putIn id o S.heap = S.heap := putIn_look h
 simp [Sto.put, this]
theorem get_new_self (S : Sto) (o : Obj) : (S.new o).get S.next = some o := by simp [Sto.new, Sto.get, Sto.look]
theorem get_new_ne {S : Sto} {o : Obj} {id : Nat} (h : id ≠ S.next) : (S.new o).get id = S.get id := by simp [Sto.new, Sto.get, Sto.look, Ne.symm h]
theorem next_new (S : Sto) (o : Obj) : (S.new o).next = S.next + 1 := (rfl)
theorem next_put (S : Sto) (id : Nat) (o : Obj) : (S.put id o).next = S.next := (rfl)
def goodO : Obj → Bool
 | .cells cs => sameL cs cs
 | .arr _ rows => sameR rows rows
 | _ => true
structure SOK (S : Sto) : Prop where
 lt : ∀ p ∈ S.heap, p.1 < S.next
 nd : (S.heap.map (·.1)).Nodup
 ok : ∀ p ∈ S.heap, goodO p.2 = true
theorem look_mem : ∀ {h : List (Nat × Obj)} {p : Nat × Obj}, (h.map (·.1)).Nodup → p ∈ h → Sto.look p.1 h = some p.2
 | [], p, _, hp => by cases hp
 | (i, o) :: r, p, hn, hp => by
  simp only [List.map_cons, List.nodup_cons] at hn
  rcases List.mem_cons.1 hp with rfl | hp
  ·simp [Sto.look]
  ·have hne : ¬ i = p.1 := fun e => hn.1 (e ▸ List.mem_map_of_mem hp)
   simp only [Sto.look, if_neg hne]
   exact look_mem hn.2 hp
theorem putIn_ids (id : Nat) (o : Obj) : ∀ h : List (Nat × Obj), (Sto.putIn id o h).map (·.1) = h.map (·.1)
 | [] => rfl
 | (i, x) :: r => by
  by_cases e : i = id
  ·simp [Sto.putIn, e]
  ·simp only [Sto.putIn, if_neg e, List.map_cons, putIn_ids id o r]
theorem putIn_mem {id : Nat} {o : Obj} : ∀ {h : List (Nat × Obj)} {p : Nat × Obj}, p ∈ Sto.putIn id o h → p ∈ h ∨ p.2 = o
 | [], p, hp => by cases hp
 | (i, x) :: r, p, hp => by
  by_cases e : i = id
  ·simp only [Sto.putIn, if_pos e] at hp
   rcases List.mem_cons.1 hp with rfl | hp
   ·exact .inr rfl
   ·exact .inl (List.mem_cons_of_mem _ hp)
  ·simp only [Sto.putIn, if_neg e] at hp
   rcases List.mem_cons.1 hp with rfl | hp
   ·exact .inl (List.mem_cons_self ..)
   ·exact (putIn_mem hp).imp (List.mem_cons_of_mem _) (fun e => e)
theorem dropIn_sub (id : Nat) : ∀ h : List (Nat × Obj), (Sto.dropIn id h).Sublist h
 | [] => List.Sublist.slnil
 | (i, x) :: r => by
  by_cases e : i = id
  ·simp only [Sto.dropIn, if_pos e]; exact List.sublist_cons_self _ _
  ·simp only [Sto.dropIn, if_neg e]; exact (dropIn_sub id r).cons_cons _
theorem SOK.nil (n : Nat) : SOK { heap := [], next := n } := ⟨by simp, by simp, by simp⟩
theorem SOK.new {S : Sto} {o : Obj} (h : SOK S) (ho : goodO o = true) : SOK (S.new o) := by
 refine ⟨fun p hp => ?_, ?_, fun p hp => ?_⟩
 ·rcases List.mem_cons.1 hp with rfl | hp
  ·exact Nat.lt_succ_self _
  ·exact Nat.lt_succ_of_lt (h.lt p hp)
 ·show (S.next :: S.heap.map (·.1)).Nodup
  refine List.nodup_cons.2 ⟨fun hm => ?_, h.nd⟩
  obtain ⟨p, hp, e⟩ := List.mem_map.1 hm
  have := h.lt p hp
  omega
 ·rcases List.mem_cons.1 hp with rfl | hp
  ·exact ho
  ·exact h.ok p hp
theorem SOK.put {S : Sto} {id : Nat} {o : Obj} (h : SOK S) (ho : goodO o = true) : SOK (S.put id o) := by
 refine ⟨fun p hp => ?_, ?_, fun p hp => ?_⟩
 ·have hm : p.1 ∈ (Sto.putIn id o S.heap).map (·.1) := List.mem_map_of_mem hp
  rw [putIn_ids] at hm
  obtain ⟨q, hq, e⟩ := List.mem_map.1 hm
  rw [← e]; exact h.lt q hq
 ·show ((Sto.putIn id o S.heap).map (·.1)).Nodup
  rw [putIn_ids]; exact h.nd
 ·rcases putIn_mem hp with hp | e
  ·exact h.ok p hp
  ·rw [e]; exact ho
theorem SOK.drop {S : Sto} (id : Nat) (h : SOK S) : SOK (S.drop id) :=
 ⟨fun p hp => h.lt p ((dropIn_sub id S.heap).subset hp), h.nd.sublist ((dropIn_sub id S.heap).map _), fun p hp => h.ok p ((dropIn_sub id S.heap).subset hp)⟩
theorem look_dropIn_ne {id id' : Nat} (hne : id ≠ id') : ∀ {h : List (Nat × Obj)}, Sto.look id (Sto.dropIn id' h) = Sto.look id h
 | [] => rfl
 | (i, x) :: r => by
  by_cases e : i = id'
  ·subst e
   simp [Sto.dropIn, Sto.look, Ne.symm hne]
  ·simp only [Sto.dropIn, if_neg e, Sto.look, look_dropIn_ne hne]
theorem get_drop_ne {S : Sto} {id id' : Nat} (h : id ≠ id') : (S.drop id').get id = S.get id := look_dropIn_ne h
theorem next_drop (S : Sto) (id : Nat) : (S.drop id).next = S.next := rfl
structure Grew (x : List Nat) (S S' : Sto) : Prop where
 get : ∀ id, id < S.next → id ∉ x → S'.get id = S.get id
 next : S.next ≤ S'.next
 sok : SOK S → SOK S'
theorem Grew.refl (x : List Nat) (S : Sto) : Grew x S S := ⟨fun _ _ _ => rfl, Nat.le_refl _, id⟩
theorem Grew.trans {x : List Nat} {S S' S'' : Sto} (h : Grew x S S') (h' : Grew x S' S'') : Grew x S S'' :=
 ⟨fun id hi hx => (h'.get id (Nat.lt_of_lt_of_le hi h.next) hx).trans (h.get id hi hx), Nat.le_trans h.next h'.next, fun hk => h'.sok (h.sok hk)⟩
theorem Grew.new (x : List Nat) (S : Sto) (o : Obj) (ho : goodO o = true) : Grew x S (S.new o) := ⟨fun _ hi _ => get_new_ne (by omega), by simp [next_new], fun hk => hk.new ho⟩
theorem Grew.put {x : List Nat} (S : Sto) {id : Nat} (o : Obj) (h : id ∈ x ∨ S.next ≤ id) (ho : goodO o = true) : Grew x S (S.put id o) :=
 ⟨fun i hi hx => get_put_ne (h.elim (fun h e => hx (e ▸ h)) (fun h => by omega)), Nat.le_refl _, fun hk => hk.put ho⟩
theorem Grew.drop {x : List Nat} (S : Sto) {id : Nat} (h : id ∈ x ∨ S.next ≤ id) : Grew x S (S.drop id) :=
 ⟨fun i hi hx => get_drop_ne (h.elim (fun h e => hx (e ▸ h)) (fun h => by omega)), Nat.le_refl _, fun hk => hk.drop id⟩
theorem Grew.mono {x y : List Nat} {S S' : Sto} (h : Grew x S S') (hx : ∀ a ∈ x, a ∈ y ∨ S.next ≤ a) : Grew y S S' :=
 ⟨fun id hi hy => h.get id hi (fun e => (hx id e).elim hy (fun h => by omega)), h.next, h.sok⟩
theorem Grew.mono' {x y : List Nat} {S S' : Sto} (h : Grew x S S') (hx : ∀ a ∈ x, a ∈ y) : Grew y S S' := h.mono fun a ha => .inl (hx a ha)
theorem Grew.late {x : List Nat} {S0 S S' : Sto} {id : Nat} (h0 : Grew x S0 S) (h : Grew (id :: x) S S') (hid : S0.next ≤ id) : Grew x S0 S' :=
 ⟨fun i hi hx => (h.get i (Nat.lt_of_lt_of_le hi h0.next) (by simp only [List.mem_cons, not_or]; exact ⟨by omega, hx⟩)).trans (h0.get i hi hx), Nat.le_trans h0.next h.next, fun hk => h.sok (h0.sok hk)⟩
theorem Grew.behind {S0 S S' : Sto} {x : List Nat} (h0 : Grew [] S0 S) (h : Grew x S S') (hx : ∀ a ∈ x, S0.next ≤ a) : Grew [] S0 S' :=
 ⟨fun i hi _ => (h.get i (Nat.lt_of_lt_of_le hi h0.next) (fun hm => by have := hx i hm; omega)).trans (h0.get i hi (by simp)), Nat.le_trans h0.next h.next, fun hk => h.sok (h0.sok hk)⟩
theorem same_grew {S S' : Sto} (hk : SOK S) (h : Grew [] S S') : sameOld S S' = true := by
 unfold sameOld
 rw [List.all_eq_true]
 intro p hp
 obtain ⟨i, o⟩ := p
 have hg : S'.get i = some o := (h.get i (hk.lt _ hp) (by simp)).trans (look_mem hk.nd hp)
 have ho := hk.ok _ hp
 cases o <;> simp only [goodO] at ho ⊢ <;> simp [hg, ho]
theorem sK_grew {α : Type} {S S' : Sto} (hk : SOK S) (h : Grew [] S S') (x : Option α) : sK false S S' x = x := sK_same (same_grew hk h) x
theorem sK_self {α : Type} {S : Sto} (hk : SOK S) (x : Option α) : sK false S S x = x := sK_grew hk (Grew.refl _ _) x
theorem sameL_nil : sameL [] [] = true := by simp [sameL]
theorem sameL_cons (a b : AV) (as bs : List AV) : sameL (a :: as) (b :: bs) = (AV.same a b && sameL as bs) := by simp [sameL]
theorem same_unk : AV.same .unk .unk = true := by simp [AV.same]
theorem same_bool (b : Bool) : AV.same (.bool b) (.bool b) = true := by simp [AV.same]
theorem same_int (k : IntKind) (a : Int) : AV.same (.int k a) (.int k a) = true := by simp [AV.same]
theorem same_str (s : List UInt8) : AV.same (.str s) (.str s) = true := by simp [AV.same]
theorem same_ptr (a b : Nat) : AV.same (.ptr a b) (.ptr a b) = true := by simp [AV.same]
theorem same_nilptr : AV.same .nilptr .nilptr = true := by simp [AV.same]
theorem same_nilsl : AV.same .nilsl .nilsl = true := by simp [AV.same]
theorem same_niliface : AV.same .niliface .niliface = true := by simp [AV.same]
theorem same_nilfn : AV.same .nilfn .nilfn = true := by simp [AV.same]
theorem same_rsl (a b c d : Nat) : AV.same (.rsl a b c d) (.rsl a b c d) = true := by simp [AV.same]
theorem sameR_map {X : Type} {g : X → List AV} (h : ∀ x, sameL (g x) (g x) = true) : ∀ l : List X, sameR (l.map g) (l.map g) = true
 | [] => by simp [sameR]
 | x :: l => by simp only [List.map_cons, sameR, h x, sameR_map h l, Bool.and_self]
theorem same_sl {X : Type} {g : X → List AV} (o : Bool) (e : Nat) (h : ∀ x, sameL (g x) (g x) = true) (l : List X) : AV.same (.sl o e (l.map g)) (.sl o e (l.map g)) = true := by
 simp [AV.same, sameR_map h l]
theorem same_sv {X : Type} {g : X → List AV} (o : Bool) (e : Nat) (h : ∀ x, sameL (g x) (g x) = true) (l : Option (List X)) : AV.same (sv o e g l) (sv o e g l) = true := by
 cases l with
 | none => exact same_nilsl
 | some l => exact same_sl o e h l
theorem good_cells (cs : List AV) : goodO (.cells cs) = sameL cs cs := (rfl)
theorem good_arr (e : Nat) (rows : List (List AV)) : goodO (.arr e rows) = sameR rows rows := (rfl)
theorem good_loop (l : ALoop) : goodO (.loop l) = true := (rfl)
theorem good_deferred : goodO .deferred = true := (rfl)
theorem good_siter (s : ByteArray) (p : Nat) : goodO (.siter s p) = true := (rfl)
attribute [simp] sameL_nil sameL_cons same_unk same_bool same_int same_str same_ptr same_nilptr same_nilsl same_niliface same_nilfn same_rsl good_cells good_arr good_loop good_deferred good_siter next_drop
attribute [simp] put_put get_new_self next_new next_put
end Go.Ab
namespace Go.Ab
theorem first_or_all (p : Nat → Prop) : ∀ n, (∃ m, m < n ∧ p m ∧ ∀ k, k < m → ¬ p k) ∨ ∀ k, k < n → ¬ p k
 | 0 => .inr fun _ h => absurd h (Nat.not_lt_zero _)
 | n + 1 => by
  rcases first_or_all p n with ⟨m, h1, h2, h3⟩ | h
  ·exact .inl ⟨m, by omega, h2, h3⟩
  ·by_cases hp : p n
   ·exact .inl ⟨n, by omega, hp, h⟩
   ·refine .inr fun k hk => ?_
    by_cases e : k = n
    ·rw [e]; exact hp
    ·exact h k (by omega)
end Go.Ab
namespace Go.Ab
def cntT (t : Tmp) : List Tmp → Nat
 | [] => 0
 | u :: r => (bif u == t then 1 else 0) + cntT t r
theorem cntT_eq (t : Tmp) : ∀ l : List Tmp, l.count t = cntT t l
 | [] => rfl
 | u :: r => by
  rw [List.count_cons, cntT_eq t r, cntT]
  cases (u == t) <;> simp [Nat.add_comm]
def argT (n : Nat) (v : AV) : AV := match n with | 1 => v.clr | _ => v.strip
def argsL (env : List AV) (ts : List Tmp) : List Operand → List AV
 | [] => []
 | .tmp t :: r => argT (cntT t ts) (getT env t) :: argsL env ts r
 | x :: r => opd env x :: argsL env ts r
theorem argsA_eq (env : List AV) (l : List Operand) : argsA env l = argsL env (tmpsOf l) l := by
 unfold argsA
 suffices h : ∀ r, r.map (fun x => if sole l x then opt env x else opd env x) = argsL env (tmpsOf l) r from h l
 intro r
 induction r with
 | nil => rfl
 | cons x r ih =>
  rw [List.map_cons, ih]
  cases x <;> try rfl
  rename_i t
  simp only [sole, argsL, argT, cntT_eq, opt_tmp, opd_tmp]
  by_cases h : cntT t (tmpsOf l) = 1
  ·simp [h]
  ·have : (cntT t (tmpsOf l) == 1) = false := by simpa using h
   rw [this]
   congr 1
   generalize cntT t (tmpsOf l) = c at h
   match c, h with
   | 0, _ => rfl
   | 1, h => exact absurd rfl h
   | _ + 2, _ => rfl
theorem argsL_nil (env : List AV) (ts : List Tmp) : argsL env ts [] = [] := (rfl)
theorem argsL_tmp (env : List AV) (ts : List Tmp) (t : Tmp) (r : List Operand) : argsL env ts (.tmp t :: r) = argT (cntT t ts) (getT env t) :: argsL env ts r := (rfl)
theorem argsL_const (env : List AV) (ts : List Tmp) (v : Value) (r : List Operand) : argsL env ts (.const v :: r) = AV.ofConst v :: argsL env ts r := (rfl)
theorem argsL_func (env : List AV) (ts : List Tmp) (g : FuncId) (r : List Operand) : argsL env ts (.func g :: r) = .fn (.func g) [] [] :: argsL env ts r := (rfl)
theorem argT_one (v : AV) : argT 1 v = v.clr := (rfl)
theorem argT_more (n : Nat) (v : AV) : argT (n + 2) v = v.strip := (rfl)
theorem cntT_nil (t : Tmp) : cntT t [] = 0 := (rfl)
theorem cntT_cons (t u : Tmp) (r : List Tmp) : cntT t (u :: r) = (bif u == t then 1 else 0) + cntT t r := (rfl)
attribute [simp] argsA_eq argsL_nil argsL_tmp argsL_const argsL_func argT_one argT_more cntT_nil cntT_cons
end Go.Ab
namespace Go.Ab
variable {P : Program}
theorem bound_none (d : Nat) : boundA d none = some d := (rfl)
theorem bound_cast (d : Nat) (k : IntKind) (n : Nat) : boundA d (some (.int k n)) = some n := by simp [boundA]
theorem slice_lo {t e : TypeId} {own : Bool} {es : Nat} {rows : List (List AV)} {k : Nat} {kk : IntKind} (ht : P.underlying t = some (.slice e)) (he : P.cellsOf e = es) (h : k ≤ rows.length) :
  sliceA P t (.sl own es rows) (some (.int kk k)) none none = some (.sl own es (rows.drop k)) := by
 simp only [sliceA, ht, bound_none, bound_cast]
 rw [if_pos ⟨h, Nat.le_refl _, he.symm⟩]
 simp
theorem slice_hi {t e : TypeId} {own : Bool} {es : Nat} {rows : List (List AV)} {k : Nat} {kk : IntKind} (ht : P.underlying t = some (.slice e)) (he : P.cellsOf e = es) (h : k ≤ rows.length) :
  sliceA P t (.sl own es rows) none (some (.int kk k)) none = some (.sl (own && (k == rows.length)) es (rows.take k)) := by
 simp only [sliceA, ht, bound_none, bound_cast]
 rw [if_pos ⟨Nat.zero_le _, h, he.symm⟩]
 simp
theorem slice_hi3 {t e : TypeId} {own : Bool} {es : Nat} {rows : List (List AV)} {k : Nat} {kk kl : IntKind} (ht : P.underlying t = some (.slice e)) (he : P.cellsOf e = es) (h : k ≤ rows.length) :
  sliceA P t (.sl own es rows) none (some (.int kk k)) (some (.int kl k)) = some (.sl (own || k == 0) es (rows.take k)) := by
 simp only [sliceA, ht, bound_none, bound_cast]
 rw [if_pos ⟨Nat.zero_le _, h, he.symm⟩]
 simp
theorem slice_lohi {t e : TypeId} {own : Bool} {es : Nat} {rows : List (List AV)} {k l : Nat} {kk kl : IntKind} (ht : P.underlying t = some (.slice e)) (he : P.cellsOf e = es) (h : k ≤ rows.length) (hl : l ≤ k) :
  sliceA P t (.sl own es rows) (some (.int kl l)) (some (.int kk k)) none = some (.sl (own && (k == rows.length)) es ((rows.take k).drop l)) := by
 simp only [sliceA, ht, bound_cast]
 rw [if_pos ⟨hl, h, he.symm⟩]
end Go.Ab
namespace Go.Ab
def famK {ι : Type} (keep : Option (List Bool)) (E : ι → St) (T : ι → AExit × St → Prop) (μ : ι → Nat) (i : ι) (r : Option (AExit × St)) : Prop := match r with
 | some (.normal, st') => ∃ j, μ j < μ i ∧ st'.masked keep = E j ∧ ∀ r, T j r → T i r
 | some r => T i r
 | none => False
section
variable {ι : Type} {keep : Option (List Bool)} {E : ι → St} {T : ι → AExit × St → Prop} {μ : ι → Nat} {i : ι}
@[congr] theorem famK_congr {r r' : Option (AExit × St)} (h : r = r') : famK keep E T μ i r = famK keep E T μ i r' := by rw [h]
theorem famK_normal (st' : St) : famK keep E T μ i (some (.normal, st')) = ∃ j, μ j < μ i ∧ st'.masked keep = E j ∧ ∀ r, T j r → T i r := (rfl)
theorem famK_ret (st' : St) : famK keep E T μ i (some (.ret, st')) = T i (.ret, st') := (rfl)
theorem famK_exit (k : Nat) (st' : St) : famK keep E T μ i (some (.exit k, st')) = T i (.exit k, st') := (rfl)
theorem famK_goto (k : Nat) (st' : St) : famK keep E T μ i (some (.goto k, st')) = T i (.goto k, st') := (rfl)
theorem famK_pan (ch : List APan) (st' : St) : famK keep E T μ i (some (.pan ch, st')) = T i (.pan ch, st') := (rfl)
theorem loop_fam {body : St → Option (AExit × St)} (E : ι → St) (T : ι → AExit × St → Prop) (μ : ι → Nat) (h : ∀ i, famK keep E T μ i (body (E i))) :
  ∀ (N : Nat) (i : ι) (st : St), μ i < N → st.masked keep = E i → ∃ x st', loopN keep body N st = some (x, st') ∧ T i (x, st')
 | 0, _, _, hN, _ => absurd hN (Nat.not_lt_zero _)
 | N + 1, i, st, hN, h0 => by
  have hi := h i
  show ∃ x st', (match body (st.masked keep) with | some (.normal, st') => loopN keep body N st' | r => r) = some (x, st') ∧ T i (x, st')
  rw [h0]
  unfold famK at hi
  split at hi
  ·rename_i st1 hb
   obtain ⟨j, h1, h2, h3⟩ := hi
   rw [hb]
   obtain ⟨x, st', g1, g2⟩ := loop_fam E T μ h N j st1 (by omega) h2
   exact ⟨x, st', g1, h3 _ g2⟩
  ·rename_i r hr hb
   obtain ⟨x, st'⟩ := r
   rw [hb]
   refine ⟨x, st', ?_, hi⟩
   cases x <;> first | rfl | exact absurd rfl (hr _)
  ·cases hi
end
attribute [simp] famK_normal famK_ret famK_exit famK_goto famK_pan
end Go.Ab
namespace Go.Ab
theorem loop_fam' {ι : Type} {keep : Option (List Bool)} {body : St → Option (AExit × St)} {N : Nat} {st : St} {L : Option (AExit × St)} (hL : loopN keep body N st = L) (E : ι → St) (T : ι → AExit × St → Prop) (μ : ι → Nat) (i : ι) (hN : μ i < N) (h0 : st.masked keep = E i)
  (h : ∀ i, famK keep E T μ i (body (E i))) : ∃ x st', L = some (x, st') ∧ T i (x, st') := by
 subst hL
 exact loop_fam E T μ h N i st hN h0
end Go.Ab
namespace Go.Ab
theorem getT_setT_self : ∀ {env : List AV} {t : Nat} {v : AV}, t < env.length → getT (setT env t v) t = v
 | [], t, v, h => absurd h (Nat.not_lt_zero _)
 | a :: r, 0, v, _ => rfl
 | a :: r, t + 1, v, h => by
  show getT (setT r t v) t = v
  exact getT_setT_self (by simpa using h)
theorem setT_length : ∀ (env : List AV) (t : Nat) (v : AV), (setT env t v).length = env.length
 | [], t, v => by cases t <;> rfl
 | a :: r, 0, v => rfl
 | a :: r, t + 1, v => by
  show (setT r t v).length + 1 = _
  rw [setT_length r t v]; rfl
theorem getT_setT_ne : ∀ {env : List AV} {t u : Nat} {v : AV}, t ≠ u → getT (setT env t v) u = getT env u
 | [], t, u, v, _ => by cases t <;> cases u <;> rfl
 | a :: r, 0, 0, v, h => absurd rfl h
 | a :: r, 0, u + 1, v, _ => rfl
 | a :: r, t + 1, 0, v, _ => rfl
 | a :: r, t + 1, u + 1, v, h => by
  show getT (setT r t v) u = getT r u
  exact getT_setT_ne (by omega)
end Go.Ab
namespace Go.Ab
variable {P : Program}
theorem takeCells_eq (t : TypeId) (off : Nat) (cs : List AV) : takeCells P t off cs = oB (valAt P t (cs.drop off)) fun v => bif (aggT P t || !isAggV v) then some (v, cs.take off ++ (v.cells.map AV.strip0) ++ cs.drop (off + v.cells.length)) else none := by
 unfold takeCells oB
 cases valAt P t (cs.drop off) with
 | none => rfl
 | some v =>
  simp only
  cases (aggT P t || !isAggV v) <;> rfl
end Go.Ab
namespace Go.Ab
variable {P : Program} {H : Handler} {pol : Pol} {f : FuncId} {pl : List Tmp} {N : Nat} {round : Option Nat}
section ops
variable {d : Option Tmp} {ty : TypeId} {po : String} {af : Array Edge} {g : Option (Nat × Bool)} {st : St}
def rangeK (P : Program) (t : TypeId) (v : AV) (st : St) : Option OR := match P.underlying t, v with
 | some .string, .str s => some (.val (.ptr st.S.next 0) { st with S := st.S.new (.siter ⟨s.toArray⟩ 0) })
 | _, _ => none
theorem opA_range {t : TypeId} {x : Operand} : opA P pol f pl ⟨d, .range t x, ty, po, af, g⟩ st = rangeK P t (opd st.env x) st := by
 unfold opA
 simp only [consumed, stripAt, rangeK]
 rfl
def siterOf : Option Obj → Option (ByteArray × Nat)
 | some (.siter s p) => some (s, p)
 | _ => none
theorem siterOf_some (s : ByteArray) (p : Nat) : siterOf (some (.siter s p)) = some (s, p) := (rfl)
def nextK (v : AV) (st : St) : Option OR := match v with
 | .ptr id 0 => oB (siterOf (st.S.get id)) fun q => bif decide (q.2 < q.1.size) then
     some (.val (.tup [.bool true, .int .i64 q.2, .int .i32 (Utf8.decode q.1 q.2).1]) { st with S := st.S.put id (.siter q.1 (q.2 + (Utf8.decode q.1 q.2).2)) })
    else some (.val (.tup [.bool false]) st)
 | _ => none
theorem nextK_ptr (id : Nat) : nextK (.ptr id 0) st = oB (siterOf (st.S.get id)) fun q => bif decide (q.2 < q.1.size) then
     some (.val (.tup [.bool true, .int .i64 q.2, .int .i32 (Utf8.decode q.1 q.2).1]) { st with S := st.S.put id (.siter q.1 (q.2 + (Utf8.decode q.1 q.2).2)) })
    else some (.val (.tup [.bool false]) st) := (rfl)
theorem opA_next {x : Operand} : opA P pol f pl ⟨d, .next x true, ty, po, af, g⟩ st = nextK (opd st.env x) st := by
 unfold opA
 simp only [consumed, stripAt, nextK]
 cases opd st.env x <;> try rfl
 rename_i id off
 cases off with
 | succ n => rfl
 | zero =>
  simp only
  cases st.S.get id with
  | none => rfl
  | some o =>
   cases o <;> try rfl
   rename_i s p
   simp only [siterOf, oB]
   by_cases h : p < s.size <;> simp [h]
end ops
attribute [simp] opA_range opA_next siterOf_some nextK_ptr okD_no okD_yes fixD_no fixD_yes
def scopeK (H : Handler) (f : FuncId) (round : Option Nat) (c : Code) (r : Option (AExit × St)) : Option (AExit × St) := match r with
 | some (.goto l, st') => match findLabel c l with
   | some rest => match H.code f round rest st' with
    | some (.goto l', st2) => if (findLabel c l').isSome then none else some (.goto l', st2)
    | r => r
   | none => some (.goto l, st')
 | r => r
@[congr] theorem scopeK_congr {c : Code} {r r' : Option (AExit × St)} (h : r = r') : scopeK H f round c r = scopeK H f round c r' := by rw [h]
theorem scopeK_normal (c : Code) (st : St) : scopeK H f round c (some (.normal, st)) = some (.normal, st) := (rfl)
theorem scopeK_ret (c : Code) (st : St) : scopeK H f round c (some (.ret, st)) = some (.ret, st) := (rfl)
theorem scopeK_exit (c : Code) (i : Nat) (st : St) : scopeK H f round c (some (.exit i, st)) = some (.exit i, st) := (rfl)
theorem scopeK_pan (c : Code) (ch : List APan) (st : St) : scopeK H f round c (some (.pan ch, st)) = some (.pan ch, st) := (rfl)
theorem ev_scope (c : Code) (st : St) : evCode P H N pol f round (.scope c) st = scopeK H f round c (evCode P H N pol f round c st) := by
 conv => lhs; unfold evCode
 unfold scopeK
 rfl
attribute [simp] scopeK_normal scopeK_ret scopeK_exit scopeK_pan ev_scope
def uwK (H : Handler) (ds : List ADef) (_m : AMode) (r : Option (AEnd × AMode × Sto)) : Option (AMode × Sto) := match r with
 | some (.ret _, m', S') => unwindA H ds (settleA m') S'
 | some (.pan ch, m', S') => unwindA H ds (raisedA m' ch) S'
 | none => none
@[congr] theorem uwK_congr {ds : List ADef} {m : AMode} {r r' : Option (AEnd × AMode × Sto)} (h : r = r') : uwK H ds m r = uwK H ds m r' := by rw [h]
theorem uwK_ret (ds : List ADef) (m m' : AMode) (v : AV) (S : Sto) : uwK H ds m (some (.ret v, m', S)) = unwindA H ds (settleA m') S := (rfl)
theorem uwK_pan (ds : List ADef) (m m' : AMode) (ch : List APan) (S : Sto) : uwK H ds m (some (.pan ch, m', S)) = unwindA H ds (raisedA m' ch) S := (rfl)
theorem unwind_fn (g : FuncId) (cap args : List AV) (ds : List ADef) (m : AMode) (S : Sto) : unwindA H (⟨.fn (.func g) cap, args⟩ :: ds) m S = uwK H ds m (H.callD g (args ++ cap) m S) := by
 unfold uwK
 conv => lhs; unfold unwindA
 rfl
def deferredK {α : Type} (o : Option Obj) (x : Option α) : Option α := match o with | some .deferred => x | _ => none
@[congr] theorem deferredK_congr {α : Type} {o o' : Option Obj} {x : Option α} (h : o = o') : deferredK o x = deferredK o' x := by rw [h]
theorem deferredK_some {α : Type} (x : Option α) : deferredK (some .deferred) x = x := (rfl)
theorem unwind_coll (id : Nat) (args : List AV) (ds : List ADef) (m : AMode) (S : Sto) : unwindA H (⟨.coll id, args⟩ :: ds) m S = deferredK (S.get id) (unwindA H ds m (S.drop id)) := by
 unfold deferredK
 conv => lhs; unfold unwindA
 rfl
theorem callD_eq {n : Nat} (g : FuncId) (args : List AV) (m : AMode) (S : Sto) : (handler P pol (n + 1)).callD g args m S = runFn P (handler P pol n) n pol g m args S := (rfl)
theorem settle_ret : settleA .returning = .returning := (rfl)
theorem settle_rec (v : AV) (l : List APan) : settleA (.panicking (⟨v, true⟩ :: l)) = .returning := (rfl)
theorem settle_pan (v : AV) (l : List APan) : settleA (.panicking (⟨v, false⟩ :: l)) = .panicking (⟨v, false⟩ :: l) := (rfl)
attribute [simp] uwK_ret uwK_pan unwind_fn unwind_coll deferredK_some settle_ret settle_rec settle_pan
def recK (par : AMode) (st : St) : Option (AV × St) := match par with
 | .unk => none
 | .panicking (⟨v, false⟩ :: older) => some (v, { st with par := .panicking (⟨v, true⟩ :: older) })
 | _ => some (.niliface, st)
theorem recover_eq (st : St) : recoverA st = recK st.par st := (rfl)
theorem recK_pan (v : AV) (older : List APan) (st : St) : recK (.panicking (⟨v, false⟩ :: older)) st = some (v, { st with par := .panicking (⟨v, true⟩ :: older) }) := (rfl)
theorem recK_ret (st : St) : recK .returning st = some (.niliface, st) := (rfl)
theorem recK_none (st : St) : recK .none st = some (.niliface, st) := (rfl)
attribute [simp] recover_eq recK_pan recK_ret recK_none
def defK (par : AMode) (v : AV) (args : List AV) (st : St) : Option St := match par, v with
 | .unk, _ => none
 | _, .fn (.func g) first cap => some { st with defs := ⟨.fn (.func g) cap, first ++ args⟩ :: st.defs }
 | _, _ => none
theorem deferA_none (g : FuncId) (first cap args : List AV) (env : List AV) (defs : List ADef) (S : Sto) : deferA { env := env, defs := defs, par := .none, S := S } (.fn (.func g) first cap) args = some { env := env, defs := ⟨.fn (.func g) cap, first ++ args⟩ :: defs, par := .none, S := S } := (rfl)
attribute [simp] deferA_none
def loopOf (pol : Pol) (f : FuncId) (ps : Array Tmp) (as body : Code) (st : St) (dn : Nat) : ALoop :=
 { state := .ready, pending := none, fn := f, env := (st.masked (pol.keep f)).env.map AV.strip, params := ps.toList, assign := as, body := body, defers := dn }
def rgEnd (id : Nat) (st : St) (defs : List ADef) (r : Option (AEnd × Sto)) : Option (AExit × St) := match r with
 | none => none
 | some (.pan ch, S3) => some (.pan ch, { st with S := S3, defs })
 | some (.ret _, S3) => match S3.get id with
  | some (.loop r) =>
   if r.state = .busy then none else
   let st' := { st with S := S3.drop id, defs }
   match r.pending with
   | none => some (.normal, st')
   | some .ret => some (.ret, st')
   | some (.exit j) => some (.exit j, st')
   | some (.goto j) => some (.goto j, st')
   | some _ => none
  | _ => none
@[congr] theorem rgEnd_congr {id : Nat} {st : St} {defs : List ADef} {r r' : Option (AEnd × Sto)} (h : r = r') : rgEnd id st defs r = rgEnd id st defs r' := by rw [h]
def rgK (H : Handler) (v : AV) (id : Nat) (S2 : Sto) (st : St) (defs : List ADef) : Option (AExit × St) := match v with
 | .fn (.func g) first cap => rgEnd id st defs (H.call (.func g) (first ++ [.yld id] ++ cap) S2)
 | _ => none
@[congr] theorem rgK_congr {v v' : AV} {id : Nat} {S2 : Sto} {st : St} {defs : List ADef} (h : v = v') : rgK H v id S2 st defs = rgK H v' id S2 st defs := by rw [h]
theorem rgK_fn (g : FuncId) (first cap : List AV) (id : Nat) (S2 : Sto) (st : St) (defs : List ADef) : rgK H (.fn (.func g) first cap) id S2 st defs = rgEnd id st defs (H.call (.func g) (first ++ [.yld id] ++ cap) S2) := (rfl)
theorem ev_rangeFunc (g : Operand) (ps : Array Tmp) (as body : Code) (st : St) : evCode P H N pol f none (.rangeFunc g ps as body) st =
  rgK H (opd st.env g) (st.S.next + 1) ((st.S.new .deferred).new (.loop (loopOf pol f ps as body st st.S.next))) st (⟨.coll st.S.next, []⟩ :: st.defs) := by
 conv => lhs; unfold evCode
 unfold evRange rgK
 cases opd st.env g <;> try rfl
theorem rgEnd_pan (id : Nat) (st : St) (defs : List ADef) (ch : List APan) (S3 : Sto) : rgEnd id st defs (some (.pan ch, S3)) = some (.pan ch, { st with S := S3, defs }) := (rfl)
theorem rgEnd_ret {id : Nat} {st : St} {defs : List ADef} {v : AV} {S3 : Sto} {r : ALoop} (h : S3.get id = some (.loop r)) (hs : r.state = .ready) (hp : r.pending = none) :
  rgEnd id st defs (some (.ret v, S3)) = some (.normal, { st with S := S3.drop id, defs }) := by
 simp only [rgEnd, h, hs, hp]
 rfl
attribute [simp] rgK_fn ev_rangeFunc rgEnd_pan
theorem yield_run {id : Nat} {args : List AV} {S : Sto} {st st2 : St} {r : ALoop} (hS : S.get id = some (.loop r)) (hr : r.state = .ready) (hp : r.pending = none) (hl : args.length = r.params.length) (hf : (P.funcs[r.fn]?).isSome = true)
  (h1 : evCode P H N pol r.fn (some id) r.assign { env := setAll r.env r.params (args.map AV.strip), defs := [], par := .unk, S := S } = some (.normal, st)) (hd : st.defs = []) (hS1 : st.S = S)
  (h2 : evCode P H N pol r.fn (some id) r.body { st with S := S.put id (.loop { r with state := .busy }) } = some (.normal, st2)) (hd2 : st2.defs = []) (hS2 : st2.S.get id = some (.loop { r with state := .busy })) :
  runYield P H N pol id args S = some (.ret (.bool true), st2.S.put id (.loop r)) := by
 unfold runYield
 rw [hS]
 simp only
 rw [if_pos ⟨hl, hf⟩, h1]
 simp only
 rw [hS1, hS]
 simp only
 rw [if_pos ⟨by rw [hd]; rfl, hr⟩, h2]
 simp only
 rw [hS2]
 simp only
 rw [hd2]
 obtain ⟨a, b, c, d, e, g, i, j⟩ := r
 simp only at hr hp
 subst hr hp
 rfl
def setAllT : List AV → List Tmp → List AV → List AV
 | env, t :: ts, a :: as => setAllT (setT env t a) ts as
 | env, _, _ => env
theorem setAll_eq : ∀ (env : List AV) (ts : List Tmp) (as : List AV), setAll env ts as = setAllT env ts as
 | env, [], as => by cases as <;> rfl
 | env, t :: ts, [] => rfl
 | env, t :: ts, a :: as => by
  show setAll (env.set t a) ts as = setAllT (setT env t a) ts as
  rw [setT_eq]; exact setAll_eq _ ts as
theorem setAllT_cons (env : List AV) (t : Tmp) (ts : List Tmp) (a : AV) (as : List AV) : setAllT env (t :: ts) (a :: as) = setAllT (setT env t a) ts as := (rfl)
theorem setAllT_nil (env : List AV) (as : List AV) : setAllT env [] as = env := by cases as <;> rfl
attribute [simp] setAll_eq setAllT_cons setAllT_nil
def yFin (id : Nat) (res : Option (AExit × St)) : Option (AEnd × Sto) := match res with
 | some (x, st2) => match st2.S.get id with
  | some (.loop r2) =>
   if st2.defs.isEmpty = false then none else
   let fin (j : Option Code) : Option (AEnd × Sto) :=
    some (.ret (.bool j.isNone), st2.S.put id (.loop { r2 with state := if j.isNone then .ready else .done, pending := j }))
   match x with
   | .normal => fin none
   | .ret => fin (some .ret)
   | .exit j => fin (some (.exit j))
   | .goto j => fin (some (.goto j))
   | .pan ch => some (.pan ch, st2.S)
  | _ => none
 | none => none
@[congr] theorem yFin_congr {id : Nat} {r r' : Option (AExit × St)} (h : r = r') : yFin id r = yFin id r' := by rw [h]
def yBody (P : Program) (H : Handler) (N : Nat) (pol : Pol) (r : ALoop) (id : Nat) (res : Option (AExit × St)) : Option (AEnd × Sto) := match res with
 | some (.normal, st) => match st.S.get id with
  | some (.loop r1) => if st.defs.isEmpty ∧ r1.state = .ready then yFin id (evCode P H N pol r.fn (some id) r.body { st with S := st.S.put id (.loop { r1 with state := .busy }) }) else none
  | _ => none
 | _ => none
@[congr] theorem yBody_congr {r : ALoop} {id : Nat} {x x' : Option (AExit × St)} (h : x = x') : yBody P H N pol r id x = yBody P H N pol r id x' := by rw [h]
theorem yield_eq {id : Nat} {args : List AV} {S : Sto} {r : ALoop} (hS : S.get id = some (.loop r)) (hl : args.length = r.params.length) (hf : (P.funcs[r.fn]?).isSome = true) :
  runYield P H N pol id args S = yBody P H N pol r id (evCode P H N pol r.fn (some id) r.assign { env := setAll r.env r.params (args.map AV.strip), defs := [], par := .unk, S := S }) := by
 unfold runYield
 rw [hS]
 simp only
 rw [if_pos ⟨hl, hf⟩]
 unfold yBody yFin
 rfl
theorem yBody_normal {r r1 : ALoop} {id : Nat} {env : List AV} {par : AMode} {S : Sto} (h : S.get id = some (.loop r1)) (hs : r1.state = .ready) :
  yBody P H N pol r id (some (.normal, { env := env, defs := [], par := par, S := S })) = yFin id (evCode P H N pol r.fn (some id) r.body { env := env, defs := [], par := par, S := S.put id (.loop { r1 with state := .busy }) }) := by
 simp only [yBody, h]
 rw [if_pos ⟨rfl, hs⟩]
theorem yFin_normal {r : ALoop} {id : Nat} {env : List AV} {par : AMode} {S : Sto} (h : S.get id = some (.loop r)) :
  yFin id (some (.normal, { env := env, defs := [], par := par, S := S })) = some (.ret (.bool true), S.put id (.loop { r with state := .ready, pending := none })) := by
 simp only [yFin, h]
 rfl
theorem yFin_ret {r : ALoop} {id : Nat} {env : List AV} {par : AMode} {S : Sto} (h : S.get id = some (.loop r)) :
  yFin id (some (.ret, { env := env, defs := [], par := par, S := S })) = some (.ret (.bool false), S.put id (.loop { r with state := .done, pending := some .ret })) := by
 simp only [yFin, h]
 rfl
theorem yFin_exit {r : ALoop} {id j : Nat} {env : List AV} {par : AMode} {S : Sto} (h : S.get id = some (.loop r)) :
  yFin id (some (.exit j, { env := env, defs := [], par := par, S := S })) = some (.ret (.bool false), S.put id (.loop { r with state := .done, pending := some (.exit j) })) := by
 simp only [yFin, h]
 rfl
theorem rgEnd_done {id : Nat} {st : St} {defs : List ADef} {v : AV} {S3 : Sto} {r : ALoop} (h : S3.get id = some (.loop r)) (hs : r.state = .done) (hp : r.pending = some .ret) :
  rgEnd id st defs (some (.ret v, S3)) = some (.ret, { st with S := S3.drop id, defs }) := by
 simp only [rgEnd, h, hs, hp]
 rfl
theorem rgEnd_exit {id j : Nat} {st : St} {defs : List ADef} {v : AV} {S3 : Sto} {r : ALoop} (h : S3.get id = some (.loop r)) (hs : r.state = .done) (hp : r.pending = some (.exit j)) :
  rgEnd id st defs (some (.ret v, S3)) = some (.exit j, { st with S := S3.drop id, defs }) := by
 simp only [rgEnd, h, hs, hp]
 rfl
attribute [simp ↓] clK_false clK_true wK_true ownOK_nil proSt_nil
attribute [simp ↓] oB_some oB_none bindN_normal bindN_ret bindN_exit bindN_goto bindN_pan blkK_normal blkK_ret blkK_pan blkK_exit bK_true bK_false gK_tt gK_ff gK_tf gK_ft gK_un gK_un' rK_val rK_pan rK_call cK_ret cK_pan
attribute [simp ↓] ev_skip ev_label ev_seq ev_cond ev_block ev_exit ev_goto ev_ret ev_regionL ev_loop ev_draw wantedL_none wantedL_some gT_some evL_nil evL_cons
attribute [simp ↓] fK_none fixD_nil sK_true cKD_ret cKD_pan rKD_val rKD_pan rKD_call evLD_nil evLD_cons dK_normal dK_pan bxK_true
attribute [simp ↓] nbO_unk nbO_bool nbO_int nbO_str nbO_nilptr nbO_ptr nbO_fptr nbO_lptr nbO_nilsl nbO_sl nbO_rsl nbO_aptr nbO_nilmap nbO_map nbO_nilfn nbO_fn nbO_yld nbO_niliface nbO_iface nbO_agg nbO_tup nbO_undef nbO_sv nbO_alloc nbO_box
attribute [simp ↓] nbK_unk nbK_bool nbK_int nbK_str nbK_nilptr nbK_ptr nbK_fptr nbK_lptr nbK_nilsl nbK_sl nbK_rsl nbK_aptr nbK_nilmap nbK_map nbK_nilfn nbK_fn nbK_yld nbK_niliface nbK_iface nbK_agg nbK_tup nbK_undef nbK_sv
attribute [simp ↓] famK_normal famK_ret famK_exit famK_goto famK_pan stepOK_normal contK_ret contK_exit contK_goto contK_pan finK_normal finK_ret finK_pan endK_ret endK_pan
attribute [simp ↓] scopeK_normal scopeK_ret scopeK_exit scopeK_pan uwK_ret uwK_pan deferredK_some
end Go.Ab
namespace Go.Ab
structure Memo where
 f : FuncId
 args : List AV
 S : Sto
 r : Option (AEnd × Sto)
def sameHeap (a b : List (Nat × Obj)) : Bool := eqL (fun x y => Nat.beq x.1 y.1 && sameObj x.2 y.2) a b
theorem sameHeap_eq {a b : List (Nat × Obj)} (h : sameHeap a b = true) : a = b := eqL_eq (fun x y hxy => by
 rw [Bool.and_eq_true] at hxy
 exact Prod.ext (Nat.eq_of_beq_eq_true hxy.1) (sameObj_eq _ _ hxy.2)) _ _ h
def memo (g : FuncId) (args : List AV) (S : Sto) (d : Option (AEnd × Sto)) : List Memo → Option (AEnd × Sto)
 | [] => d
 | m :: ms => bif Nat.beq m.f g && (Nat.beq m.S.next S.next && (sameL m.args args && sameHeap m.S.heap S.heap)) then m.r else memo g args S d ms
theorem memo_eq {g : FuncId} {args : List AV} {S : Sto} {d : Option (AEnd × Sto)} : ∀ ms : List Memo, (∀ m ∈ ms, m.f = g → m.args = args → m.S = S → m.r = d) → memo g args S d ms = d
 | [], _ => rfl
 | m :: ms, h => by
  unfold memo
  cases hb : (Nat.beq m.f g && (Nat.beq m.S.next S.next && (sameL m.args args && sameHeap m.S.heap S.heap))) with
  | false => exact memo_eq ms fun m' hm => h m' (by simp [hm])
  | true =>
   simp only [Bool.and_eq_true] at hb
   obtain ⟨h1, h2, h3, h4⟩ := hb
   refine h m (by simp) (Nat.eq_of_beq_eq_true h1) (sameL_eq _ _ h3) ?_
   obtain ⟨f, a, ⟨hp, nx⟩, r⟩ := m
   obtain ⟨hp', nx'⟩ := S
   simp only at h2 h4
   rw [sameHeap_eq h4, Nat.eq_of_beq_eq_true h2]
def hkMC (ms : List Memo) (H : Handler) (t : Tgt) (args : List AV) (S : Sto) : Option (AEnd × Sto) :=
 match t with
 | .func g => memo g args S (H.call (.func g) args S) ms
 | .yield i => H.call (.yield i) args S
def hkM (ms : List Memo) (H : Handler) : Handler := { free := H.free, call := hkMC ms H, callD := H.callD, code := H.code }
theorem hkM_eq {ms : List Memo} {H : Handler} (h : ∀ m ∈ ms, H.call (.func m.f) m.args m.S = m.r) : H = hkM ms H := by
 have e : H.call = (hkM ms H).call := by
  funext t args S
  cases t with
  | yield i => rfl
  | func g =>
   refine (memo_eq ms fun m hm h1 h2 h3 => ?_).symm
   rw [← h m hm, h1, h2, h3]
 cases H with
 | mk a b c d => simp only [hkM] at e ⊢; rw [← e]
theorem memo_ok {H : Handler} {f : FuncId} {a : List AV} {S : Sto} {r : Option (AEnd × Sto)} (h : H.call (.func f) a S = r) : ∀ m : Memo, m = ⟨f, a, S, r⟩ → H.call (.func m.f) m.args m.S = m.r := by
 rintro _ rfl
 exact h
def noMode (r : AEnd × AMode × Sto) : AEnd × Sto := (r.1, r.2.2)
theorem call_runFn {P : Program} {pol : Pol} {n : Nat} {f : FuncId} (hf : pol.free f = false) (args : List AV) (S : Sto) :
  (handler P pol (n + 1)).call (.func f) args S = (runFn P (handler P pol n) n pol f .none args S).map noMode := by
 simp only [handler, hf]
 rfl
def runTrue : Option (AEnd × AMode × Sto) → Bool
 | some (.ret (.bool true), _, _) => true
 | _ => false
theorem runTrue_some {r : Option (AEnd × AMode × Sto)} (h : runTrue r = true) : ∃ p S, r = some (.ret (.bool true), p, S) := by
 match r, h with
 | some (.ret (.bool true), p, S), _ => exact ⟨p, S, rfl⟩
theorem call_free0 {P : Program} {pol : Pol} {f : FuncId} {n : Nat} (hf : pol.free f = true) (h : runTrue (runFn P (handler P pol n) n pol f .none [] { heap := [], next := 0 }) = true) (S : Sto) :
  (handler P pol (n + 1)).call (.func f) [] S = some (.ret (.bool true), S) := by
 obtain ⟨p, S', h⟩ := runTrue_some h
 simp only [handler, hf, if_true, h]
def hkCall (f : FuncId) (H : Handler) (t : Tgt) (args : List AV) (S : Sto) : Option (AEnd × Sto) :=
 match t, args with
 | .func g, [] => if Nat.beq g f then some (.ret (.bool true), S) else H.call (.func g) [] S
 | t, args => H.call t args S
def hk (f : FuncId) (H : Handler) : Handler := { free := H.free, call := hkCall f H, callD := H.callD, code := H.code }
theorem hk_eq {f : FuncId} {H : Handler} (h : ∀ S, H.call (.func f) [] S = some (.ret (.bool true), S)) : H = hk f H := by
 have e : H.call = hkCall f H := by
  funext t args S
  unfold hkCall
  split
  ·rename_i g
   by_cases hb : Nat.beq g f = true
   ·rw [if_pos hb]; cases Nat.eq_of_beq_eq_true hb; exact h S
   ·rw [if_neg hb]
  ·rfl
 cases H with
 | mk a b c d => simp only [hk] at e ⊢; rw [← e]
end Go.Ab
