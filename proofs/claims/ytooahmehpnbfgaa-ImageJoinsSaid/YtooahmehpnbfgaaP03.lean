/- Joining image files in the program answers as joining them in the document does, whatever the two files (pomanderlaw21.ImageJoins). No conditions. -/
import Derived.Test.YtooahmehpnbfgaaP02
import Derived.Orders
import Derived.Below
import Derived.Carry
import Derived.ChangeOld
import Derived.ChangeArms
import Derived.WalkKit
import Derived.ProofKit
import Derived.OpenShut
import Derived.SizedLaws
namespace Go.Ab
variable {P : Program} {C : Ctx} {n : Nat}
theorem runFn_fn {H : Handler} {N : Nat} {pol : Pol} {f : FuncId} {par : AMode} {args : List AV} {S : Sto} {r : AEnd × AMode × Sto} (h : runFn P H N pol f par args S = some r) : ∃ fn, P.funcs[f]? = some fn := by
 unfold runFn at h
 cases hf : P.funcs[f]? with
 | none => rw [hf] at h; cases h
 | some fn => exact ⟨fn, rfl⟩
theorem ChainRel.no_exit : ∀ {as : List APan} {cs : List PanicEntry}, ChainRel C as cs → cs.dropWhile (!·.goexit) = []
 | [], cs, h => by
  have : cs = [] := h
  subst this; rfl
 | a :: as, cs, ⟨c, cs', e, _, _, hg, hr⟩ => by
  subst e
  simp [List.dropWhile, hg, hr.no_exit]
theorem ChainRel.append : ∀ {as bs : List APan} {cs ds : List PanicEntry}, ChainRel C as cs → ChainRel C bs ds → ChainRel C (as ++ bs) (cs ++ ds)
 | [], bs, cs, ds, h, h' => by
  have : cs = [] := h
  subst this; exact h'
 | a :: as, bs, cs, ds, ⟨c, cs', e, h1, h2, h3, h4⟩, h' => by
  subst e
  exact ⟨c, cs' ++ ds, rfl, h1, h2, h3, h4.append h'⟩
def settle (m : FrameMode) : FrameMode :=
 match m with
 | .panicking ({ recovered := true, .. } :: older) => match older.dropWhile (!·.goexit) with
  | [] => .returning
  | rest => .panicking rest
 | m => m
theorem step_back {fr u : Frame} {cs : List Frame} {w : World} {v : Value} {fn : Func} (hm : fr.mode = .returning) (hd : fr.defers = []) (hk : fr.kind = .deferred) (hf : P.funcs[fr.fn]? = some fn) (hr : (results fn fr.tmps).run P w = .ok v w) :
  step P (lone fr (u :: cs) w) = .next (lone { u with mode := settle u.mode } cs w) := by
 refine step_lone_go ?_
 have e : (match u.mode with
    | .panicking ({ recovered := true, .. } :: older) =>
     match older.dropWhile (!·.goexit) with
     | [] => { u with mode := .returning }
     | rest => { u with mode := .panicking rest }
    | _ => u) = { u with mode := settle u.mode } := by
  unfold settle
  split
  ·rename_i older hm
   split <;> rfl
  ·rfl
 simp [stepG, unwind, doReturn, hm, hd, hk, hf, hr]
 exact e
theorem settle_rel {m : AMode} {fm : FrameMode} (h : ModeRel C m fm) : ModeRel C (settleA m) (settle fm) := by
 cases m with
 | none => exact h.elim
 | unk => exact h.elim
 | returning =>
  have : fm = .returning := h
  subst this; rfl
 | panicking ch =>
  obtain ⟨cch, rfl, hc⟩ := h
  cases ch with
  | nil =>
   have : cch = [] := hc
   subst this
   exact ⟨[], rfl, rfl⟩
  | cons a as =>
   obtain ⟨c, cs', rfl, h1, h2, h3, h4⟩ := hc
   obtain ⟨av, ar⟩ := a
   obtain ⟨cv, cr, cg⟩ := c
   simp only at h2 h3
   subst h2; subst h3
   cases cr with
   | true =>
    show settle _ = _
    simp only [settle, h4.no_exit]
   | false => exact ⟨_, rfl, ⟨_, _, rfl, h1, rfl, rfl, h4⟩⟩
theorem raise_rel {m : AMode} {u : Frame} {ch : List APan} {cch : List PanicEntry} (h : ModeRel C m u.mode) (hc : ChainRel C ch cch) : ∃ um, ModeRel C (raisedA m ch) um ∧ u.raise cch = { u with mode := um } := by
 cases m with
 | none => exact h.elim
 | unk => exact h.elim
 | returning =>
  have hm : u.mode = .returning := h
  exact ⟨.panicking cch, ⟨_, rfl, hc⟩, by simp [Frame.raise, hm]⟩
 | panicking old =>
  obtain ⟨co, hm, ho⟩ := h
  exact ⟨.panicking (cch ++ co), ⟨_, rfl, hc.append ho⟩, by simp [Frame.raise, hm]⟩
def gF : List Nat → List Nat
 | 1 :: r => 0 :: 1 :: r
 | 0 :: a :: r => 0 :: 0 :: a :: r
 | l => l
def gB : List Nat → List Nat
 | 0 :: 1 :: r => 1 :: r
 | 0 :: 0 :: a :: r => 0 :: a :: r
 | l => l
theorem gF_froz : gF froz = froz := rfl
theorem gB_froz : gB froz = froz := rfl
theorem gBF (l : List Nat) : gB (gF l) = l := by
 match l with
 | [] => rfl
 | [0] => rfl
 | [1] => rfl
 | [_ + 2] => rfl
 | 0 :: a :: r => rfl
 | 1 :: a :: r => rfl
 | (_ + 2) :: a :: r => rfl
theorem gF_big (a : Nat) (ha : 2 ≤ a) (r : List Nat) : gF (a :: r) = a :: r := by
 match a, r with
 | 0, _ => omega
 | 1, _ => omega
 | n + 2, r => rfl
theorem gB_big (a : Nat) (ha : 2 ≤ a) (r : List Nat) : gB (a :: r) = a :: r := by
 match a, r with
 | 0, _ => omega
 | 1, _ => omega
 | n + 2, [] => rfl
 | n + 2, b :: r => rfl
theorem gF_calm {d : Nat} {l : List Nat} (hne : l ≠ []) (h : ¬ (Deep d l ∧ ∀ r, l ≠ 1 :: r)) : gF l ≠ [] ∧ ¬ Deep d (gF l) := by
 match l, hne, h with
 | [0], _, _ => exact ⟨by simp [gF], by rintro ⟨k, r, e, hk⟩; cases e; omega⟩
 | 1 :: r, _, _ => exact ⟨by simp [gF], by rintro ⟨k, r', e, hk⟩; cases e; omega⟩
 | 0 :: a :: r, _, _ => exact ⟨by simp [gF], by rintro ⟨k, r', e, hk⟩; cases e; omega⟩
 | (n + 2) :: r, _, h =>
  have : gF ((n + 2) :: r) = (n + 2) :: r := gF_big _ (by omega) r
  rw [this]
  refine ⟨by simp, fun hd => h ⟨hd, fun r' e => by cases e⟩⟩
theorem aside_ext {d : Nat} {C' : Ctx} (h : Ext (Deep d) (C.map gF) C') : Ext (fun l => Deep d l ∧ ∀ r, l ≠ 1 :: r) C (C'.map gB) where
 n := h.n
 ids := h.ids
 fr := fun b o hl => by
  obtain ⟨h1, h2⟩ := h.fr b o (by show gF (C.L b o) = froz; rw [hl, gF_froz])
  exact ⟨by show gB (C'.L b o) = froz; rw [h1, gB_froz], h2⟩
 keep := fun b o hne hx => by
  obtain ⟨a1, a2⟩ := gF_calm hne hx
  obtain ⟨h1, h2⟩ := h.keep b o a1 a2
  refine ⟨?_, h2⟩
  show gB (C'.L b o) = C.L b o
  rw [h1]; exact gBF _
 β := fun d' s hx => h.β d' s (fun hd => hx ⟨hd, fun r e => by cases e⟩)
 shape := h.shape
 old := ⟨h.old.base, h.old.size, h.old.os, h.old.tape, h.old.output, h.old.fr⟩
theorem aside_heap {d : Nat} {C' : Ctx} {S : Sto} (hS : HeapRel C S) (h : Ext (Deep d) (C.map gF) C') {k : Nat} (hk : C'.n = k) (hfr : ∀ b o, C'.w.heap.size ≤ b → C'.L b o = []) : HeapRel (C'.map gB) { heap := S.heap, next := k } where
 n := hk
 nodup := hS.nodup
 obj := fun id o ho => by
  have hx := aside_ext h
  have h1 := (hS.obj id o ho).1
  refine ⟨?_, (hS.obj id o ho).2.mono hx (by rw [hS.n]; exact h1) (fun r hh => hh.2 _ rfl)⟩
  have := h.n
  have e : (C.map gF).n = S.next := hS.n
  rw [e, hk] at this
  show id < k; omega
 fresh := fun b o hb => by
  show gB (C'.L b o) = []
  rw [hfr b o hb]; rfl
 base := hS.base.mono (aside_ext h)
def freeCallA (run : List AV → Sto → Option (AEnd × AMode × Sto)) (args : List AV) (S : Sto) : Option (AEnd × Sto) :=
 match args with
 | [] => match run [] { heap := [], next := 0 } with
  | some (.ret (.bool b), _, _) => some (.ret (.bool b), S)
  | _ => none
 | args => match run args { heap := [], next := S.next } with
  | some (.ret v, _, ⟨[], k⟩) => some (.ret v, { heap := S.heap, next := k })
  | _ => none
def Ctx.begin (C : Ctx) : Ctx := { C.map gF with n := 0 }
def Ctx.back (C C' : Ctx) : Ctx := { C'.map gB with φ := C.φ, ψ := C.ψ, σ := C.σ, κ := C.κ, n := C.n }
theorem back_ext {d : Nat} {C C' : Ctx} (h : Ext (Deep d) C.begin C') : Ext (fun l => Deep d l ∧ ∀ r, l ≠ 1 :: r) C (C.back C') where
 n := Nat.le_refl _
 ids := fun _ _ => ⟨rfl, rfl, rfl, rfl⟩
 fr := fun b o hl => by
  obtain ⟨h1, h2⟩ := h.fr b o (by show gF (C.L b o) = froz; rw [hl, gF_froz])
  exact ⟨by show gB (C'.L b o) = froz; rw [h1, gB_froz], h2⟩
 keep := fun b o hne hx => by
  obtain ⟨a1, a2⟩ := gF_calm hne hx
  obtain ⟨h1, h2⟩ := h.keep b o a1 a2
  refine ⟨?_, h2⟩
  show gB (C'.L b o) = C.L b o
  rw [h1]; exact gBF _
 β := fun d' s hx => h.β d' s (fun hd => hx ⟨hd, fun r e => by cases e⟩)
 shape := h.shape
 old := ⟨h.old.base, h.old.size, h.old.os, h.old.tape, h.old.output, h.old.fr⟩
theorem back_heap {d : Nat} {C C' : Ctx} {S : Sto} (hS : HeapRel C S) (h : Ext (Deep d) C.begin C') (hfr : ∀ b o, C'.w.heap.size ≤ b → C'.L b o = []) : HeapRel (C.back C') S where
 n := hS.n
 nodup := hS.nodup
 obj := fun id o ho => by
  have h1 := (hS.obj id o ho).1
  exact ⟨h1, (hS.obj id o ho).2.mono (back_ext h) (by rw [hS.n]; exact h1) (fun r hh => hh.2 _ rfl)⟩
 fresh := fun b o hb => by
  show gB (C'.L b o) = []
  rw [hfr b o hb]; rfl
 base := hS.base.mono (back_ext h)
theorem handler_ok (hF : Fine P) {pol : Pol} (hD : ∀ H, HSound P H → DrawOK P H pol) : ∀ n, HSound P (handler P pol n)
 | 0 => by
  refine ⟨?_, ?_, ?_, ?_⟩
  ·intro g args S e S' _ h; cases h
  ·intro t args S e S' h; cases h
  ·intro g args m m' S e S' h; cases h
  ·intro f round c st x st' h; cases h
 | n + 1 => by
  have ih := handler_ok hF hD n
  refine ⟨?_, ?_, ?_, ?_⟩
  ·intro g args S e S' hfree h
   have hfree' : pol.free g = true := hfree
   have h' : freeCallA (runFn P (handler P pol n) n pol g .none) args S = some (e, S') := by
    have h0 := h
    simp only [handler] at h0
    rw [if_pos hfree'] at h0
    exact h0
   have hgo : ∀ S2 r, freeCallA (runFn P (handler P pol n) n pol g .none) args S2 = r → (handler P pol (n + 1)).call (.func g) args S2 = r := by
    intro S2 r hr
    simp only [handler]
    rw [if_pos hfree']
    exact hr
   unfold freeCallA at h' hgo
   split at h'
   ·split at h'
    ·rename_i b _ _ hrun
     cases h'
     refine ⟨.bool b, S.next, rfl, rfl, fun S2 hS2 => hgo S2 _ ?_⟩
     simp only [hrun, ← hS2]
    ·cases h'
   ·split at h'
    ·rename_i hne _ v p k hrun
     cases h'
     refine ⟨v, k, rfl, rfl, fun S2 hS2 => hgo S2 _ ?_⟩
     split
     ·exact absurd rfl hne
     ·rw [hS2, hrun]
    ·cases h'
  ·intro t args S e S' h C d cargs hS ha
   cases t with
   | yield id => exact yield_ok hF ih (hD _ ih) h hS ha
   | func f =>
    by_cases hfree : pol.free f = true
    ·have h' : freeCallA (runFn P (handler P pol n) n pol f .none) args S = some (e, S') := by
      have h0 := h
      simp only [handler] at h0
      rw [if_pos hfree] at h0
      exact h0
     unfold freeCallA at h'
     split at h'
     ·split at h'
      ·rename_i b p S1 hr
       cases h'
       obtain ⟨fn, hfn⟩ := runFn_fn hr
       have hS0 : HeapRel (C.begin) { heap := [], next := 0 } :=
        ⟨rfl, List.nodup_nil, (fun _ _ hm => by cases hm), fun b o hb => by show gF (C.L b o) = []; rw [hS.fresh b o hb]; rfl, ⟨hS.base.1, fun b o hb => by show gF (C.L b o) = froz; rw [hS.base.2 b o hb]; rfl⟩⟩
       have hc0 : cargs = [] := by simpa only [ListRel] using ha
       subst hc0
       have main := fun (c : Frame) (cs : List Frame) => runFn_ok hF ih (hD _ ih) hr (d := d) hS0 (cargs := []) (by simp only [ListRel]) (b := { fn := f, kind := .normal, rnd := none, K := fun _ => c :: cs, head := by intro h; cases h }) rfl rfl (cm := .returning) ⟨rfl, rfl⟩
       refine ⟨_, _, (main default []).1, rfl, fun c cs => ?_⟩
       obtain ⟨C', fr, cm, hst, h1, h2, h3, h4, h5, h6, h7, h8⟩ := (main c cs).2.out
       obtain ⟨g1, g2, fn', cv, g3, g4, g5⟩ := h8
       refine ⟨C.back C', (back_ext h7).weaken (fun _ h => h.1), back_heap hS h7 h6.fresh, g2, cv, ?_, Steps.trans hst (.one (step_leave_returned ⟨g1, h1, h2, fn', g3, g4⟩))⟩
       simpa only [VRel] using g5
      ·cases h'
     split at h'
     ·rename_i hne _ v p k hr
      cases h'
      obtain ⟨fn, hfn⟩ := runFn_fn hr
      have hS0 : HeapRel (C.map gF) { heap := [], next := S.next } :=
       ⟨hS.n, List.nodup_nil, (fun _ _ hm => by cases hm), fun b o hb => by show gF (C.L b o) = []; rw [hS.fresh b o hb]; rfl, ⟨hS.base.1, fun b o hb => by show gF (C.L b o) = froz; rw [hS.base.2 b o hb]; rfl⟩⟩
      have ha0 : ListRel (C.map gF) args (some [d + 2]) 0 cargs := ListRel.map gF_froz args _ _ 0 cargs (.inr ⟨_, _, rfl, rfl, fun r => gF_big (d + 2) (by omega) r⟩) ha
      have main := fun (c : Frame) (cs : List Frame) => runFn_ok hF ih (hD _ ih) hr (d := d) hS0 ha0 (b := { fn := f, kind := .normal, rnd := none, K := fun _ => c :: cs, head := by intro h; cases h }) rfl rfl (cm := .returning) ⟨rfl, rfl⟩
      refine ⟨_, _, (main default []).1, rfl, fun c cs => ?_⟩
      obtain ⟨C', fr, cm, hst, h1, h2, h3, h4, h5, h6, h7, h8⟩ := (main c cs).2.out
      obtain ⟨g1, g2, fn', cv, g3, g4, g5⟩ := h8
      refine ⟨C'.map gB, (aside_ext h7).weaken (fun _ h => h.1), aside_heap hS h7 h6.n h6.fresh, g2, cv, ?_, Steps.trans hst (.one (step_leave_returned ⟨g1, h1, h2, fn', g3, g4⟩))⟩
      exact VRel.map gB_froz _ _ _ _ (.inr ⟨_, _, rfl, rfl, fun r => gB_big (d + 3) (by omega) r⟩) (isPl_lp g2) (fun hb => absurd hb (by simp [isPl_bx g2])) g5
     ·cases h'
    have h' : (runFn P (handler P pol n) n pol f .none args S).map (fun x => (x.1, x.2.2)) = some (e, S') := by
     have h0 := h
     simp only [handler] at h0
     rw [if_neg hfree] at h0
     exact h0
    cases hr : runFn P (handler P pol n) n pol f .none args S with
    | none => rw [hr] at h'; cases h'
    | some r =>
     obtain ⟨e1, p1, S1⟩ := r
     rw [hr] at h'
     simp only [Option.map_some, Option.some.injEq, Prod.mk.injEq] at h'
     obtain ⟨rfl, rfl⟩ := h'
     obtain ⟨fn, hfn⟩ := runFn_fn hr
     have main := fun (c : Frame) (cs : List Frame) => runFn_ok hF ih (hD _ ih) hr (d := d) hS ha (b := { fn := f, kind := .normal, rnd := none, K := fun _ => c :: cs, head := by intro h; cases h }) rfl rfl (cm := .returning) ⟨rfl, rfl⟩
     refine ⟨_, _, (main default []).1, rfl, fun c cs => ?_⟩
     obtain ⟨C', fr, cm, hst, h1, h2, h3, h4, h5, h6, h7, h8⟩ := (main c cs).2.out
     refine ⟨C', h7, h6, ?_⟩
     cases e1 with
     | ret v =>
      obtain ⟨g1, g2, fn', cv, g3, g4, g5⟩ := h8
      exact ⟨g2, cv, g5, Steps.trans hst (.one (step_leave_returned ⟨g1, h1, h2, fn', g3, g4⟩))⟩
     | pan ch =>
      obtain ⟨cch, g1, g2⟩ := h8
      exact ⟨cch, g2, Steps.trans hst (.one (step_leave_panicked ⟨g1, h1, fn, by rw [h3]; exact hfn⟩))⟩
  ·intro g args m m' S e S' h C d cargs u hS ha hM
   have hr : runFn P (handler P pol n) n pol g m args S = some (e, m', S') := h
   obtain ⟨fn, hfn⟩ := runFn_fn hr
   have hpar : ∀ cs, ParRel C { fn := g, kind := .deferred, rnd := none, K := fun fm => { u with mode := fm } :: cs, head := fun _ => ⟨u, cs, fun _ => rfl⟩ } m u.mode := by
    intro cs
    cases m with
    | none => exact hM.elim
    | unk => exact hM.elim
    | returning => exact ⟨rfl, rfl, hM⟩
    | panicking ch => exact ⟨rfl, rfl, hM⟩
   have main := fun (cs : List Frame) => runFn_ok hF ih (hD _ ih) hr (d := d) hS (ListRel.any _ _ _ _ _ ha) (b := { fn := g, kind := .deferred, rnd := none, K := fun fm => { u with mode := fm } :: cs, head := fun _ => ⟨u, cs, fun _ => rfl⟩ }) rfl rfl (hpar cs)
   refine ⟨(main []).1, fun cs => ?_⟩
   obtain ⟨C', fr, cm, hst, h1, h2, h3, h4, h5, h6, h7, h8⟩ := (main cs).2.out
   have hM' : ModeRel C' m' cm := by
    cases m' with
    | none => cases h5.1
    | unk => cases h5.1
    | returning => exact h5.2.2
    | panicking ch => exact h5.2.2
   have hst' : Steps P (lone (Frame.enter P g cargs.toArray .deferred) (u :: cs) C.w) (lone fr ({ u with mode := cm } :: cs) C'.w) := hst
   cases e with
   | ret v =>
    obtain ⟨g1, g2, fn', cv, g3, g4, g5⟩ := h8
    exact ⟨C', settle cm, h7, h6, settle_rel hM', Steps.trans hst' (.one (step_back (u := { u with mode := cm }) g1 h1 h2 g3 g4))⟩
   | pan ch =>
    obtain ⟨cch, g1, g2⟩ := h8
    obtain ⟨um, k1, k2⟩ := raise_rel (u := { u with mode := cm }) hM' g2
    refine ⟨C', um, h7, h6, k1, Steps.trans hst' (.one ?_)⟩
    have := step_leave_panicked (P := P) (fr := fr) (c := { u with mode := cm }) (cs := cs) (w := C'.w) ⟨g1, h1, fn, by rw [h3]; exact hfn⟩
    rw [k2] at this
    exact this
  ·intro f round c st x st' h C d b tmps defers cm hfn hrd hrn hR hl k
   exact code_ok hF ih (hD _ ih) c h hfn hrd hrn hR hl k
end Go.Ab
namespace Go.Ab
def ClosedM (m : Region.Mode) (ops : Array Oper) (done : List Nat) : List Nat → Prop
 | [] => True
 | i :: l => i ∉ done ∧ (∃ o, ops[i]? = some o ∧ ∀ e ∈ o.after, Region.binds m e = true → e.on ∈ done) ∧ ClosedM m ops (i :: done) l
abbrev Closed (ops : Array Oper) (done : List Nat) (l : List Nat) : Prop := ClosedM .any ops done l
theorem closedB_closed {m : Region.Mode} {ops : Array Oper} : ∀ {l done : List Nat}, closedB m ops done l = true → ClosedM m ops done l
 | [], _, _ => trivial
 | i :: l, done, h => by
  simp only [closedB, Bool.and_eq_true, Bool.not_eq_true'] at h
  obtain ⟨⟨h1, h2⟩, h3⟩ := h
  refine ⟨by simpa using h1, ?_, closedB_closed h3⟩
  cases ho : ops[i]? with
  | none => rw [ho] at h2; cases h2
  | some o =>
   rw [ho] at h2
   simp only [Array.all_eq_true] at h2
   refine ⟨o, rfl, fun e he hb => ?_⟩
   obtain ⟨k, hk, rfl⟩ := Array.mem_iff_getElem.1 he
   have := h2 k hk
   simpa [hb] using this
section
variable {m : Region.Mode} {ops : Array Oper}
theorem closed_notin : ∀ {l done : List Nat}, ClosedM m ops done l → ∀ j ∈ done, j ∉ l
 | [], _, _, _, _ => by simp
 | a :: l, done, h, j, hj => by
  intro hm
  rcases List.mem_cons.1 hm with rfl | hm
  ·exact h.1 hj
  ·exact closed_notin h.2.2 j (List.mem_cons_of_mem _ hj) hm
theorem closed_nodup : ∀ {l done : List Nat}, ClosedM m ops done l → l.Nodup
 | [], _, _ => List.nodup_nil
 | a :: l, done, h => List.nodup_cons.2 ⟨closed_notin h.2.2 a (by simp), closed_nodup h.2.2⟩
theorem closed_lt : ∀ {l done : List Nat}, ClosedM m ops done l → ∀ j ∈ l, j < ops.size
 | [], _, _, _, h => by cases h
 | a :: l, done, h, j, hj => by
  rcases List.mem_cons.1 hj with rfl | hj
  ·obtain ⟨o, ho, _⟩ := h.2.1
   exact (Array.getElem?_eq_some_iff.1 ho).1
  ·exact closed_lt h.2.2 j hj
theorem binds_any {m : Region.Mode} {e : Edge} (h : Region.binds .any e = true) : Region.binds m e = true := by
 unfold Region.binds at h ⊢
 cases hg : e.ground <;> rw [hg] at h <;> first | rfl | (simp at h)
theorem closed_any : ∀ {l done : List Nat}, ClosedM m ops done l → Closed ops done l
 | [], _, _ => trivial
 | a :: l, done, h => by
  obtain ⟨h1, ⟨o, ho, hd⟩, h2⟩ := h
  exact ⟨h1, ⟨o, ho, fun e he hb => hd e he (binds_any hb)⟩, closed_any h2⟩
theorem first_ready {listed : List Nat} : ∀ {l done : List Nat}, ClosedM m ops done l → (∀ i ∈ done, i ∈ listed) → (∃ i ∈ l, i ∉ listed) → ∃ i o, i ∉ listed ∧ ops[i]? = some o ∧ ∀ e ∈ o.after, Region.binds m e = true → e.on ∈ listed
 | [], _, _, _, h => by obtain ⟨i, h, _⟩ := h; cases h
 | a :: l, done, h, hd, hex => by
  by_cases ha : a ∈ listed
  ·refine first_ready h.2.2 (fun i hi => ?_) ?_
   ·rcases List.mem_cons.1 hi with rfl | hi
    ·exact ha
    ·exact hd i hi
   ·obtain ⟨i, hi, hn⟩ := hex
    rcases List.mem_cons.1 hi with rfl | hi
    ·exact absurd ha hn
    ·exact ⟨i, hi, hn⟩
  ·obtain ⟨_, ⟨o, ho, hdep⟩, _⟩ := h
   exact ⟨a, o, ha, ho, fun e he hb => hd _ (hdep e he hb)⟩
end
theorem ready_some {m : Region.Mode} {ops : Array Oper} {lw : List Nat} (hw : ClosedM m ops [] lw) (hwl : lw.length = ops.size) {listed : Array Bool} (hsz : listed.size = ops.size) (h : ∃ i, i < ops.size ∧ listed.getD i true = false) :
  ((List.range ops.size).filter fun i => !listed.getD i true && ((ops[i]?).map (·.after.all fun e => !Region.binds m e || listed.getD e.on false)).getD false) ≠ [] := by
 have hin : ∀ i, i < ops.size → i ∈ lw := by
  intro i hi
  refine Classical.byContradiction fun hna => ?_
  have hn' : (i :: lw).Nodup := List.nodup_cons.2 ⟨hna, closed_nodup hw⟩
  have := hn'.length_le_of_subset (l₂ := List.range ops.size) (fun b hb => by
   rcases List.mem_cons.1 hb with rfl | hb
   ·exact List.mem_range.2 hi
   ·exact List.mem_range.2 (closed_lt hw b hb))
  simp at this; omega
 let L := (List.range ops.size).filter fun i => listed.getD i false
 have hL : ∀ i, i < ops.size → (i ∈ L ↔ listed.getD i true = true) := by
  intro i hi
  have hi' : i < listed.size := by omega
  simp only [L, List.mem_filter, List.mem_range, hi, true_and]
  simp [hi']
 obtain ⟨i, o, h1, h2, h3⟩ := first_ready (listed := L) hw (by simp) (by
  obtain ⟨i, hi, hl⟩ := h
  refine ⟨i, hin i hi, fun hm => ?_⟩
  rw [(hL i hi).1 hm] at hl; cases hl)
 have hi := (Array.getElem?_eq_some_iff.1 h2).1
 intro he
 have hm : i ∈ (List.range ops.size).filter fun i => !listed.getD i true && ((ops[i]?).map (·.after.all fun e => !Region.binds m e || listed.getD e.on false)).getD false := by
  refine List.mem_filter.2 ⟨List.mem_range.2 hi, ?_⟩
  have : listed.getD i true = false := by
   cases hv : listed.getD i true with
   | false => rfl
   | true => exact absurd ((hL i hi).2 hv) h1
  rw [this, h2]
  simp only [Bool.not_false, Bool.true_and, Option.map_some, Option.getD_some, Array.all_eq_true]
  intro k hk
  by_cases hb : Region.binds m o.after[k] = true
  ·have hm := h3 _ (Array.getElem_mem hk) hb
   have := (List.mem_filter.1 hm).2
   simp only [this, Bool.or_true]
  ·simp [hb]
 rw [he] at hm
 cases hm
theorem lin_closed {m : Region.Mode} {ops : Array Oper} {lw : List Nat} (hb : ClosedM m ops [] lw) (hbl : lw.length = ops.size) : ∀ (fuel t : Nat) (listed : Array Bool) (done : List Nat), listed.size = ops.size → (∀ i, i < ops.size → (listed.getD i true = true ↔ i ∈ done)) → (∀ i ∈ done, i < ops.size) → done.Nodup → fuel + done.length = ops.size →
  ClosedM m ops done (Region.linearise.go m ops fuel t listed []) ∧ (Region.linearise.go m ops fuel t listed []).length = fuel
 | 0, t, listed, done, _, _, _, _, _ => by simp [Region.linearise.go, ClosedM]
 | fuel + 1, t, listed, done, hsz, hin, hlt, hnd, hf => by
  have hex : ∃ i, i < ops.size ∧ listed.getD i true = false := by
   refine Classical.byContradiction fun hn => ?_
   have hall : ∀ i, i < ops.size → i ∈ done := fun i hi => (hin i hi).1 (by
    cases hv : listed.getD i true with
    | true => rfl
    | false => exact absurd ⟨i, hi, hv⟩ hn)
   have hsub : (List.range ops.size).length ≤ done.length := (List.nodup_range).length_le_of_subset (fun i hi => hall i (List.mem_range.1 hi))
   simp at hsub
   omega
  have hne := ready_some hb hbl hsz hex
  simp only [Region.linearise.go]
  generalize hrs : ((List.range ops.size).filter fun i => !listed.getD i true && ((ops[i]?).map (·.after.all fun e => !Region.binds m e || listed.getD e.on false)).getD false) = rs at *
  have hpos : 0 < rs.length := List.length_pos_iff.2 hne
  have hlt' : t % rs.length < rs.length := Nat.mod_lt _ hpos
  rw [List.getElem?_eq_getElem hlt']
  simp only
  generalize hi : rs[t % rs.length] = i
  have him : i ∈ rs := by rw [← hi]; exact List.getElem_mem hlt'
  rw [← hrs] at him
  obtain ⟨h1, h2⟩ := List.mem_filter.1 him
  have hi' := List.mem_range.1 h1
  simp only [Bool.and_eq_true, Bool.not_eq_true'] at h2
  obtain ⟨h2, h3⟩ := h2
  rw [Array.getElem?_eq_getElem hi'] at h3
  simp only [Option.map_some, Option.getD_some, Array.all_eq_true] at h3
  have hnot : i ∉ done := fun hm => by rw [(hin i hi').2 hm] at h2; cases h2
  have ih := lin_closed hb hbl fuel (t / rs.length) (listed.setIfInBounds i true) (i :: done) (by simpa using hsz) (fun j hj => by
   by_cases e : i = j
   ·subst e
    have : i < listed.size := by omega
    simp [this]
   ·have hjl : j < listed.size := by omega
    have h0 := hin j hj
    simp only [Array.getD_eq_getD_getElem?, List.mem_cons] at h0 ⊢
    rw [Array.getElem?_setIfInBounds_ne e, h0]
    constructor
    ·exact .inr
    ·rintro (h | h)
     ·exact absurd h.symm e
     ·exact h) (fun j hj => by
   rcases List.mem_cons.1 hj with rfl | hj
   ·exact hi'
   ·exact hlt j hj) (List.nodup_cons.2 ⟨hnot, hnd⟩) (by simp; omega)
  rw [linearise_go_acc]
  simp only [List.reverse_singleton, List.singleton_append, ClosedM, List.length_cons]
  refine ⟨⟨hnot, ⟨ops[i], Array.getElem?_eq_getElem hi', fun e he hbd => ?_⟩, ih.1⟩, by rw [ih.2]⟩
  obtain ⟨k, hk, rfl⟩ := Array.mem_iff_getElem.1 he
  have := h3 k hk
  simp only [hbd, Bool.not_true, Bool.false_or] at this
  have hlk : (ops[i].after[k]).on < ops.size := by
   refine Classical.byContradiction fun hge => ?_
   have : listed.getD (ops[i].after[k]).on false = false := by
    have : ¬ (ops[i].after[k]).on < listed.size := by omega
    simp [this]
   simp_all
  refine (hin _ hlk).1 ?_
  have hlk2 : (ops[i].after[k]).on < listed.size := by omega
  simp [hlk2] at this ⊢
  exact this
end Go.Ab
namespace Go.Ab
variable {P : Program}
def Agree (L : List Tmp) (env env' : List AV) : Prop := ∀ t ∈ L, env.getD t .undef = env'.getD t .undef ∨ (∃ cs cs', env.getD t .undef = .box cs ∧ env'.getD t .undef = .box cs')
theorem mem_tmps {xs : List Operand} {x : Operand} (hx : x ∈ xs) : ∀ t, x = .tmp t → t ∈ tmpsOf xs := fun t h => List.mem_filterMap.2 ⟨x, hx, by rw [h]⟩
theorem opd_congr {L : List Tmp} {env env' : List AV} (h : Agree L env env') {x : Operand} (hx : ∀ t, x = .tmp t → t ∈ L) : opd env x = opd env' x := by
 cases x with
 | tmp t =>
  rcases h t (hx t rfl) with h | ⟨cs, cs', h1, h2⟩
  ·simp only [opd, h]
  ·simp only [opd, h1, h2]; rfl
 | _ => rfl
theorem opt_congr {L : List Tmp} {env env' : List AV} (h : Agree L env env') {x : Operand} (hx : ∀ t, x = .tmp t → t ∈ L) : opt env x = opt env' x := by
 cases x with
 | tmp t =>
  rcases h t (hx t rfl) with h | ⟨cs, cs', h1, h2⟩
  ·simp only [opt, h]
  ·simp only [opt, h1, h2]; rfl
 | _ => rfl
theorem adr_congr {L : List Tmp} {env env' : List AV} (h : Agree L env env') {x : Operand} (hx : ∀ t, x = .tmp t → t ∈ L) : adr env x = adr env' x := by
 cases x with
 | tmp t =>
  rcases h t (hx t rfl) with h | ⟨cs, cs', h1, h2⟩
  ·simp only [adr, h]
  ·simp only [adr, h1, h2]
 | _ => rfl
theorem pureA_congr {pol : Pol} {f : FuncId} {o : Oper} {env env' : List AV} (h : Agree (tmpsOf o.op.operands.toList) env env') : pureA P pol f o env = pureA P pol f o env' := by
 have od : ∀ x ∈ o.op.operands.toList, opd env x = opd env' x := fun x hx => opd_congr h (mem_tmps hx)
 have ot : ∀ x ∈ o.op.operands.toList, opt env x = opt env' x := fun x hx => opt_congr h (mem_tmps hx)
 have oa : ∀ x ∈ o.op.operands.toList, adr env x = adr env' x := fun x hx => adr_congr h (mem_tmps hx)
 have ol : ∀ xs : List Operand, (∀ x ∈ xs, x ∈ o.op.operands.toList) → xs.map (opd env) = xs.map (opd env') := fun xs hs => List.map_congr_left fun x hx => od x (hs x hx)
 have oo : ∀ x : Option Operand, (∀ y, x = some y → y ∈ o.op.operands.toList) → x.map (opd env) = x.map (opd env') := by
  intro x hx
  cases x with
  | none => rfl
  | some y => simp [od y (hx y rfl)]
 unfold pureA
 cases hop : o.op <;> simp only [hop, Op.operands] at od ot oa ol oo ⊢
 case move x => simp [od x (by simp), ot x (by simp)]
 case assign x => simp [ot x (by simp)]
 case pick c a b => simp [od c (by simp), od a (by simp), od b (by simp)]
 case build t ps =>
  have h1 : ∀ p ∈ ps.toList, opd env p.2 = opd env' p.2 := fun p hp => od p.2 (by simp; exact ⟨p.1, by simpa using hp⟩)
  have h2 : ∀ p ∈ ps.toList, opt env p.2 = opt env' p.2 := fun p hp => ot p.2 (by simp; exact ⟨p.1, by simpa using hp⟩)
  split
  ·rename_i i x hps
   rw [h2 (i, x) (by rw [hps]; simp)]
  ·congr 1
   exact List.map_congr_left fun p hp => by rw [h1 p hp]
 case nilCheck x => rw [oa x (by simp)]
 case binOp op t x y yt => rw [od x (by simp), od y (by simp)]
 case unOp op t x => rw [od x (by simp)]
 case makeInterface t x => rw [od x (by simp)]
 case makeFunc fn first cap => rw [ol first.toList (by simp; intro x hx; exact .inl hx), ol cap.toList (by simp; intro x hx; exact .inr hx)]
 case slice t x lo hi mx =>
  rw [ot x (by simp), oo lo (by rintro y rfl; simp), oo hi (by rintro y rfl; simp), oo mx (by rintro y rfl; simp)]
 case fieldAddr s x i => rw [oa x (by simp)]
 case field t x i => rw [od x (by simp)]
 case indexAddr t x i => rw [oa x (by simp), od i (by simp)]
 case index t x i => rw [od x (by simp), od i (by simp)]
 case typeAssert x xt t ok => rw [od x (by simp)]
 case extract x i => rw [od x (by simp)]
 case call c =>
  obtain ⟨callee, args, ts⟩ := c
  cases callee with
  | value g => rfl
  | invoke r m => rfl
  | builtin b =>
   simp only [Call.operands] at od ol
   cases b <;> simp only
   case cap =>
    split
    ·rename_i a t ts' ha ht
     rw [od a (by rw [Array.toList_append, ha]; simp)]
    ·rfl
   case min => rw [ol args.toList (fun x hx => by simpa using hx)]
   case max => rw [ol args.toList (fun x hx => by simpa using hx)]
end Go.Ab
namespace Go.Ab
variable {P : Program}
def BxS (env env' : List AV) : Prop := ∀ s cs, env.getD s .undef = .box cs → ∃ cs', env'.getD s .undef = .box cs' ∧ cs'.map AV.strip0 = cs.map AV.strip0
structure SR (S S' : Sto) : Prop where
 cells : ∀ id cs, S.get id = some (.cells cs) → ∃ cs', S'.get id = some (.cells cs') ∧ cs'.map AV.strip0 = cs.map AV.strip0
 arr : ∀ id es rows, S.get id = some (.arr es rows) → S'.get id = some (.arr es rows)
 map : ∀ id es, S.get id = some (.map es) → ∃ es', S'.get id = some (.map es') ∧ es'.length = es.length
theorem SR.refl (S : Sto) : SR S S := ⟨fun _ cs h => ⟨cs, h, rfl⟩, fun _ _ _ h => h, fun _ es h => ⟨es, h, rfl⟩⟩
theorem BxS.refl (env : List AV) : BxS env env := fun _ cs h => ⟨cs, h, rfl⟩
theorem sameOld_sr {S S' : Sto} (h : sameOld S S' = true) : SR S S' := by
 have at_ : ∀ id o, S.get id = some o → _ := fun id o hg => List.all_eq_true.1 h (id, o) (get_mem hg)
 refine ⟨fun id cs hg => ?_, fun id es rows hg => ?_, fun id es hg => ?_⟩
 ·have := at_ id _ hg
  simp only at this
  split at this
  ·rename_i cs' hg'
   rw [sameL_eq _ _ this]
   exact ⟨cs', hg', rfl⟩
  ·cases this
 ·have := at_ id _ hg
  simp only at this
  split at this
  ·rename_i es' rows' hg'
   simp only [Bool.and_eq_true, beq_iff_eq] at this
   rw [hg', this.1, sameR_eq _ _ this.2]
  ·cases this
 ·have := at_ id _ hg
  simp only at this
  split at this
  ·rename_i es' hg'
   simp only [beq_iff_eq] at this
   exact ⟨es', hg', this.symm⟩
  ·cases this
theorem load_congr {S S' : Sto} {env env' : List AV} {t : TypeId} {a v : AV} (hb : BxS env env') (hs : SR S S') (h : loadA P S env t a = some v) : loadA P S' env' t a = some v := by
 unfold loadA at h ⊢
 split at h
 ·split at h
  ·rename_i id off cs hg
   obtain ⟨cs', h1, h2⟩ := hs.cells _ _ hg
   simp only [h1]
   rw [List.map_drop, h2, ← List.map_drop]; exact h
  ·cases h
 ·split at h
  ·rename_i s off cs hg
   obtain ⟨cs', h1, h2⟩ := hb _ _ hg
   simp only [h1]
   rw [List.map_drop, h2, ← List.map_drop]; exact h
  ·cases h
 ·exact h
 ·split at h
  ·rename_i id r off es rows hg
   simp only [hs.arr _ _ _ hg]
   exact h
  ·cases h
 ·cases h
theorem len_congr {S S' : Sto} {t : TypeId} {x v : AV} (hs : SR S S') (h : lenA P S t x = some v) : lenA P S' t x = some v := by
 unfold lenA at h ⊢
 split at h <;> first | exact h | skip
 ·split at h
  ·rename_i id es hg
   obtain ⟨es', h1, h2⟩ := hs.map _ _ hg
   simp only [h1, h2]; exact h
  ·cases h
theorem rowsIn_congr {S S' : Sto} {es : Nat} {v : AV} {r : List (List AV)} (hs : SR S S') (h : rowsIn S es v = some r) : rowsIn S' es v = some r := by
 unfold rowsIn at h ⊢
 split at h
 ·split at h
  ·rename_i id es' off len es'' rows hg
   simp only [hs.arr _ _ _ hg]
   exact h
  ·cases h
 ·exact h
theorem more_congr {S S' : Sto} {e xt : TypeId} {x : AV} {r : List (List AV)} (hs : SR S S') (h : moreA P S e xt x = some r) : moreA P S' e xt x = some r := by
 unfold moreA at h ⊢
 split at h <;> first | exact h | exact rowsIn_congr hs h | cases h
theorem append_congr {how : Nat} {st xt : TypeId} {a b : AV} {s s' : St} {r : OR} (hw : how ≠ 2) (hs : SR s.S s'.S) (h : appendS P how st xt a b s = some r) : ∃ v, r = .val v s ∧ appendS P how st xt a b s' = some (.val v s') := by
 unfold appendS at h ⊢
 split at h
 ·rename_i e he
  split at h
  ·cases h
  ·rename_i z hz
   split at h
   ·rename_i hl
    rw [if_pos hl]
    cases hm : moreA P (if how = 0 then { heap := [], next := 0 } else s.S) e xt b with
    | none => rw [hm] at h; cases h
    | some more =>
     have hm' : moreA P (if how = 0 then { heap := [], next := 0 } else s'.S) e xt b = some more := by
      by_cases h0 : how = 0
      ·rw [if_pos h0] at hm ⊢; exact hm
      ·rw [if_neg h0] at hm ⊢; exact more_congr hs hm
     rw [hm] at h
     rw [hm']
     simp only [if_neg hw] at h ⊢
     cases ha : appInline P e a more with
     | none => rw [ha] at h; cases h
     | some v => rw [ha] at h; cases h; exact ⟨v, rfl, rfl⟩
   ·cases h
 ·cases h
theorem opA_pure {pol : Pol} {f : FuncId} {pl : List Tmp} {o : Oper} {st : St} (hp : isPure o = true) :
  opA P pol f pl o st = (pureA P pol f o st.env).map fun v => .val v { st with env := stripAt st.env (consumed pol f o) } := by
 have hp0 := hp
 unfold opA
 unfold isPure at hp
 cases hop : o.op <;> simp only [hop] at hp ⊢ <;> try (exact if_pos hp0)
 case call c =>
  obtain ⟨callee, args, ts⟩ := c
  cases callee with
  | value g => cases hp
  | invoke r m => cases hp
  | builtin b => cases b <;> simp only at hp ⊢ <;> first | exact if_pos hp0 | cases hp
 all_goals cases hp
def LookS (P : Program) (o : Oper) (st st' : St) : Prop :=
 BxS st.env st'.env ∧ (SR st.S st'.S ∨ ∃ t a, o.op = .load t a ∧ ∀ v, loadA P st.S st.env t (adr st.env a) = some v → loadA P st'.S st'.env t (adr st.env a) = some v)
theorem LookS.sr {o : Oper} {st st' : St} (h : LookS P o st st') (hn : ∀ t a, o.op ≠ .load t a) : BxS st.env st'.env ∧ SR st.S st'.S :=
 ⟨h.1, h.2.resolve_right (fun ⟨t, a, e, _⟩ => hn t a e)⟩
theorem LookS.load {o : Oper} {st st' : St} (h : LookS P o st st') {t : TypeId} {a : Operand} (ho : o.op = .load t a) {v : AV} (hl : loadA P st.S st.env t (adr st.env a) = some v) : loadA P st'.S st'.env t (adr st.env a) = some v := by
 rcases h.2 with h2 | ⟨t', a', e, h2⟩
 ·exact load_congr h.1 h2 hl
 ·rw [ho] at e; cases e; exact h2 v hl
theorem opA_rdr {pol : Pol} {f : FuncId} {pl : List Tmp} {o : Oper} {st : St} {r : OR} (hr : rdr pol f o = true) (h : opA P pol f pl o st = some r) :
  ∃ v, r = .val v { st with env := stripAt st.env (consumed pol f o) } ∧ ∀ st' : St, Agree (tmpsOf o.op.operands.toList) st.env st'.env → (looksS o = true → LookS P o st st') →
   opA P pol f pl o st' = some (.val v { st' with env := stripAt st'.env (consumed pol f o) }) := by
 by_cases hp : isPure o = true
 ·rw [opA_pure hp] at h
  cases hv : pureA P pol f o st.env with
  | none => rw [hv] at h; cases h
  | some v =>
   rw [hv] at h; cases h
   refine ⟨v, rfl, fun st' ha _ => ?_⟩
   rw [opA_pure hp, ← pureA_congr ha, hv]; rfl
 ·unfold rdr at hr
  unfold opA at h
  have od : ∀ {st' : St}, Agree (tmpsOf o.op.operands.toList) st.env st'.env → ∀ x ∈ o.op.operands.toList, opd st.env x = opd st'.env x := fun ha x hx => opd_congr ha (mem_tmps hx)
  have ot : ∀ {st' : St}, Agree (tmpsOf o.op.operands.toList) st.env st'.env → ∀ x ∈ o.op.operands.toList, opt st.env x = opt st'.env x := fun ha x hx => opt_congr ha (mem_tmps hx)
  have oa : ∀ {st' : St}, Agree (tmpsOf o.op.operands.toList) st.env st'.env → ∀ x ∈ o.op.operands.toList, adr st.env x = adr st'.env x := fun ha x hx => adr_congr ha (mem_tmps hx)
  cases hop : o.op <;> simp only [hop, Op.operands, Call.operands] at hr h od ot oa <;> first | exact absurd hr hp | skip
  case load t a =>
   have hc : consumed pol f o = [] := by simp [consumed, hop]
   rw [hc] at h ⊢
   simp only [stripAt] at h ⊢
   unfold loadS at h
   cases hd : o.dst with
   | none => rw [hd] at h; cases h
   | some d =>
    rw [hd] at h hr
    simp only [Bool.not_eq_true'] at h hr
    rw [hr] at h
    simp only [Bool.false_eq_true, if_false] at h
    cases hl : loadA P st.S st.env t (adr st.env a) with
    | none => rw [hl] at h; cases h
    | some v =>
     rw [hl] at h; cases h
     refine ⟨v, rfl, fun st' ha hs => ?_⟩
     have h1 := hs (by simp [looksS, hop])
     unfold opA
     simp only [hop, hc, stripAt]
     unfold loadS
     rw [hd]
     simp only [hr, Bool.false_eq_true, if_false]
     rw [← oa ha a (by simp)]
     rw [h1.load hop hl]; rfl
  case buildSlice t len ps =>
   split at h
   ·rename_i d v hd hb
    rw [hd] at hr
    simp only [Bool.not_eq_true', beq_eq_false_iff_ne, ne_eq] at hr
    rw [if_neg hr] at h
    cases h
    refine ⟨v, rfl, fun st' ha _ => ?_⟩
    unfold opA
    simp only [hop, hd]
    have : ps.toList.map (fun p => (p.1, opd st.env p.2)) = ps.toList.map (fun p => (p.1, opd st'.env p.2)) :=
     List.map_congr_left fun p hp => by rw [od ha p.2 (by simp; exact ⟨p.1, by simpa using hp⟩)]
    rw [← this, hb]
    simp only [if_neg hr]
   ·cases h
  case makeSlice t l c =>
   split at h
   ·rename_i d v hd hb
    rw [hd] at hr
    simp only [Bool.not_eq_true', beq_eq_false_iff_ne, ne_eq] at hr
    rw [if_neg hr] at h
    cases h
    refine ⟨v, rfl, fun st' ha _ => ?_⟩
    unfold opA
    simp only [hop, hd]
    rw [← od ha l (by simp), ← od ha c (by simp), hb]
    simp only [if_neg hr]
   ·cases h
  case convert src dst x =>
   cases hd : o.dst with
   | none => rw [hd] at h; cases h
   | some d =>
    rw [hd] at h
    simp only at h
    cases hv : convA P src dst (opt st.env x) with
    | some v =>
     rw [hv] at h
     cases h
     refine ⟨v, rfl, fun st' ha _ => ?_⟩
     unfold opA
     simp only [hop, hd]
     rw [← ot ha x (by simp), hv]
    | none =>
     rw [hv] at h
     simp only at h
     split at h
     ·cases h
     ·rename_i h0
      split at h
      ·rename_i e id es off len hu1 hu2 hx
       split at h
       ·rename_i hu3
        cases hro : rowsIn st.S 1 (.rsl id es off len) with
        | none => rw [hro] at h; cases h
        | some rows =>
         rw [hro] at h
         simp only at h
         cases hby : bytesOf? rows with
         | none => rw [hby] at h; cases h
         | some bs =>
          rw [hby] at h
          cases h
          refine ⟨.str bs, rfl, fun st' ha hs => ?_⟩
          obtain ⟨h1, h2⟩ := (hs (by simp [looksS, hop])).sr (by simp [hop])
          unfold opA
          simp only [hop, hd]
          rw [← ot ha x (by simp), hv, ← od ha x (by simp), hx]
          simp only [if_neg h0, hu1, hu2, hu3, rowsIn_congr h2 hro, hby]
          rfl
       ·cases h
      ·cases h
  case call c =>
   obtain ⟨callee, args, ts⟩ := c
   cases callee with
   | value g => simp only at hr; exact absurd hr hp
   | invoke r m => simp only at hr; exact absurd hr hp
   | builtin b =>
    cases b <;> simp only at hr h <;> first | exact absurd hr hp | skip
    case append =>
     split at h
     ·rename_i d a b s x ts' hd hargs hts
      rw [hd] at hr
      simp only [Bool.not_eq_true', beq_eq_false_iff_ne, ne_eq] at hr
      have hex : ∃ v, r = .val v { st with env := stripAt st.env (consumed pol f o) } := by
       obtain ⟨v, hv, _⟩ := append_congr (s' := { st with env := stripAt st.env (consumed pol f o) }) hr (SR.refl _) h
       exact ⟨v, hv⟩
      obtain ⟨v, rfl⟩ := hex
      refine ⟨v, rfl, fun st' ha hs => ?_⟩
      obtain ⟨h1, h2⟩ := (hs (by simp [looksS, hop])).sr (by simp [hop])
      obtain ⟨v', hv', h3⟩ := append_congr (s := { st with env := stripAt st.env (consumed pol f o) }) (s' := { st' with env := stripAt st'.env (consumed pol f o) }) hr h2 h
      cases hv'
      have ha' := ha
      unfold opA
      simp only [hop, hd, hargs, hts]
      have m1 : a ∈ args.toList := by rw [hargs]; simp
      have m2 : b ∈ args.toList := by rw [hargs]; simp
      rw [← ot ha' a (List.mem_of_mem_drop (i := 0) (by simpa using m1)), ← od ha' b (List.mem_of_mem_drop (i := 0) (by simpa using m2))]
      exact h3
     ·cases h
    case len =>
     split at h
     ·rename_i a t ts' hargs hts
      cases hl : lenA P st.S t (opd st.env a) with
      | none => rw [hl] at h; cases h
      | some v =>
       rw [hl] at h; cases h
       refine ⟨v, rfl, fun st' ha hs => ?_⟩
       obtain ⟨h1, h2⟩ := (hs (by simp [looksS, hop])).sr (by simp [hop])
       have ha' := ha
       unfold opA
       have m1 : a ∈ args.toList := by rw [hargs]; simp
       simp only [hop, hargs, hts]
       rw [← od ha' a (List.mem_of_mem_drop (i := 0) (by simpa using m1)), len_congr h2 hl]
       rfl
     ·cases h
end Go.Ab
namespace Go.Ab
variable {P : Program}
def setO (env : List AV) : Option (Nat × AV) → List AV
 | none => env
 | some (s, w) => env.set s w
def eff (env : List AV) (C : List Tmp) (so : Option (Nat × AV)) (dst : Option Tmp) (v : AV) : List AV :=
 match dst with
 | some d => (setO (stripAt env C) so).set d v
 | none => setO (stripAt env C) so
structure Like (L : List Tmp) (env env' : List AV) : Prop where
 at_ : ∀ t ∈ L, env'.getD t .undef = env.getD t .undef
 box : ∀ s cs, env.getD s .undef = .box cs → env'.getD s .undef = .box cs
theorem Like.agree {L : List Tmp} {env env' : List AV} (h : Like L env env') : Agree L env env' := fun t ht => .inl (h.at_ t ht).symm
theorem Like.bxs {L : List Tmp} {env env' : List AV} (h : Like L env env') : BxS env env' := fun s cs hs => ⟨cs, h.box s cs hs, rfl⟩
theorem look_put {id : Nat} {o : Obj} : ∀ {l : List (Nat × Obj)} {o0 : Obj}, Sto.look id l = some o0 → ∀ k, Sto.look k (Sto.putIn id o l) = if k = id then some o else Sto.look k l
 | [], o0, h, k => by cases h
 | (i, x) :: r, o0, h, k => by
  unfold Sto.look at h
  unfold Sto.putIn
  by_cases hi : i = id
  ·rw [if_pos hi]
   unfold Sto.look
   by_cases hk : k = id
   ·rw [if_pos hk, if_pos (by omega)]
   ·rw [if_neg hk, if_neg (by omega), if_neg (by omega)]
  ·rw [if_neg hi] at h ⊢
   unfold Sto.look
   rw [look_put h k]
   by_cases hk : k = id
   ·subst hk; simp [hi]
   ·simp [hk]
theorem get_put {S : Sto} {id : Nat} {o o0 : Obj} (h : S.get id = some o0) (k : Nat) : (S.put id o).get k = if k = id then some o else S.get k := look_put h k
theorem take_strip {t : TypeId} {off : Nat} {cs cs' : List AV} {v : AV} (h : takeCells P t off cs = some (v, cs')) : cs'.map AV.strip0 = cs.map AV.strip0 := by
 unfold takeCells at h
 cases hv : valAt P t (cs.drop off) with
 | none => rw [hv] at h; cases h
 | some v0 =>
  rw [hv] at h
  simp only [Option.ite_none_right_eq_some, Option.some.injEq, Prod.mk.injEq] at h
  obtain ⟨hok, rfl, rfl⟩ := h
  have hin : v0.cells = (cs.drop off).take v0.cells.length ∧ (v0.cells ≠ [] → off ≤ cs.length) := by
   unfold valAt at hv
   unfold aggT at hok
   have one : ∀ {x : AV}, (cs.drop off).head? = some x → isAggV x = false → x.cells = (cs.drop off).take x.cells.length ∧ (x.cells ≠ [] → off ≤ cs.length) := by
    intro x hx hn
    have hc : x.cells = [x] := by cases x <;> first | rfl | cases hn
    rw [hc]
    cases hd : cs.drop off with
    | nil => rw [hd] at hx; cases hx
    | cons a r =>
     rw [hd] at hx; cases hx
     refine ⟨rfl, fun _ => ?_⟩
     have := congrArg List.length hd
     simp at this; omega
   have agg : ∀ {x : AV}, (if P.cellsOf t ≤ (cs.drop off).length then some (AV.agg ((cs.drop off).take (P.cellsOf t))) else none) = some x → x.cells = (cs.drop off).take x.cells.length ∧ (x.cells ≠ [] → off ≤ cs.length) := by
    intro x hx
    split at hx
    ·cases hx
     simp only [AV.cells]
     refine ⟨?_, fun hne => ?_⟩
     ·rw [List.length_take, Nat.min_eq_left (by assumption)]
     ·refine Classical.byContradiction fun hgt => hne ?_
      rw [List.drop_eq_nil_of_le (by omega)]; simp
    ·cases hx
   cases hu : P.underlying t with
   | none => rw [hu] at hv; cases hv
   | some dd =>
    rw [hu] at hv hok
    cases dd <;> simp only [Bool.true_or, Bool.false_or, Bool.not_eq_true'] at hv hok <;> first | exact agg hv | exact one hv hok
  obtain ⟨h1, h2⟩ := hin
  by_cases hne : v0.cells = []
  ·rw [hne]; simp
  ·have hle := h2 hne
   have hid : (v0.cells.map AV.strip0).map AV.strip0 = v0.cells.map AV.strip0 := by simp [Function.comp_def, strip0_idem]
   rw [List.map_append, List.map_append, hid, ← List.map_append, ← List.map_append]
   congr 1
   have : cs = cs.take off ++ ((cs.drop off).take v0.cells.length ++ (cs.drop off).drop v0.cells.length) := by rw [List.take_append_drop, List.take_append_drop]
   rw [← h1] at this
   rw [List.drop_drop] at this
   rw [← List.append_assoc] at this
   exact this.symm
theorem mapPut_eff {t : TypeId} {m k x v : AV} {st st1 : St} (h : mapPutS P t m k x st = some (.val v st1)) : ∃ S', st1 = { st with S := S' } ∧ ∀ st' : St, st'.S = st.S → mapPutS P t m k x st' = some (.val v { st' with S := S' }) := by
 unfold mapPutS at h
 split at h
 ·rename_i kt et id hu
  split at h
  ·rename_i hk
   split at h
   ·rename_i es hg
    split at h
    ·rename_i ra hra
     cases hp : putA es k x ra with
     | none => rw [hp] at h; cases h
     | some es' =>
      rw [hp] at h; cases h
      refine ⟨st.S.put id (.map es'), rfl, fun st' hS => ?_⟩
      unfold mapPutS
      simp only [hu, hk, if_true, hS, hg, hra, hp, Option.map_some]
    ·cases h
   ·cases h
  ·cases h
 ·cases h
theorem mapDel_eff {t : TypeId} {m k v : AV} {st st1 : St} (h : mapDelS P t m k st = some (.val v st1)) : ∃ S', st1 = { st with S := S' } ∧ ∀ st' : St, st'.S = st.S → mapDelS P t m k st' = some (.val v { st' with S := S' }) := by
 unfold mapDelS at h
 split at h
 ·rename_i kt et id hu
  split at h
  ·rename_i hk
   split at h
   ·rename_i es hg
    cases hra : findA P kt k es 0 with
    | none => rw [hra] at h; cases h
    | some ra =>
     rw [hra] at h; cases h
     refine ⟨st.S.put id (.map (delA es ra)), rfl, fun st' hS => ?_⟩
     unfold mapDelS
     simp only [hu, hk, if_true, hS, hg, hra, Option.map_some]
   ·cases h
  ·cases h
 ·cases h
theorem opA_wrt {pol : Pol} {f : FuncId} {pl : List Tmp} {o : Oper} {st st1 : St} {v : AV} (hw : rdr pol f o = true ∨ wrt pol f o = true) (h : opA P pol f pl o st = some (.val v st1)) :
  ∃ so S', st1 = { st with env := setO (stripAt st.env (consumed pol f o)) so, S := S' } ∧ (∀ s w, so = some (s, w) → ∃ cs cs', st.env.getD s .undef = .box cs ∧ w = .box cs' ∧ (isStore o = false → cs'.map AV.strip0 = cs.map AV.strip0)) ∧ (isStore o = false → SR st.S S') ∧
   ∀ st' : St, st'.S = st.S → Like (tmpsOf o.op.operands.toList) st.env st'.env → opA P pol f pl o st' = some (.val v { st' with env := setO (stripAt st'.env (consumed pol f o)) so, S := S' }) := by
 by_cases hr : rdr pol f o = true
 ·obtain ⟨v', he, hf⟩ := opA_rdr hr h
  cases he
  refine ⟨none, st.S, rfl, (fun _ _ e => nomatch e), fun _ => SR.refl _, fun st' hS hl => ?_⟩
  rw [hf st' hl.agree (fun _ => ⟨hl.bxs, .inl (by rw [hS]; exact SR.refl _)⟩), ← hS]
  rfl
 ·have hw := hw.resolve_left hr
  unfold wrt at hw
  unfold opA at h
  cases hop : o.op <;> simp only [hop, Op.operands, Call.operands] at hw h ⊢ <;> first | exact (Bool.false_ne_true hw).elim | skip
  case load t a =>
   have hc : consumed pol f o = [] := by simp [consumed, hop]
   have hst : isStore o = false := by simp [isStore, hop]
   rw [hc] at h ⊢
   simp only [stripAt] at h ⊢
   unfold loadS at h
   cases hd : o.dst with
   | none => rw [hd] at h; cases h
   | some d =>
    rw [hd] at h hw
    simp only at h hw
    rw [if_pos hw] at h
    have ha : ∀ {st' : St}, Like (tmpsOf [a]) st.env st'.env → adr st'.env a = adr st.env a := fun hl => (adr_congr hl.agree (mem_tmps (by simp))).symm
    split at h
    ·rename_i id off had
     split at h
     ·rename_i cs hg
      cases htc : takeCells P t off cs with
      | none => rw [htc] at h; cases h
      | some vc =>
       obtain ⟨v0, cs'⟩ := vc
       rw [htc] at h; cases h
       refine ⟨none, st.S.put id (.cells cs'), rfl, (fun _ _ e => nomatch e), fun _ => ?_, fun st' hS hl => ?_⟩
       ·refine ⟨fun k c hk => ?_, fun k es rows hk => ?_, fun k es hk => ?_⟩
        ·rw [get_put hg]
         by_cases e : k = id
         ·subst e
          rw [hg] at hk; cases hk
          exact ⟨cs', by simp, take_strip htc⟩
         ·exact ⟨c, by simp [e, hk], rfl⟩
        ·rw [get_put hg]
         have : k ≠ id := by rintro rfl; rw [hg] at hk; cases hk
         simp [this, hk]
        ·rw [get_put hg]
         have : k ≠ id := by rintro rfl; rw [hg] at hk; cases hk
         exact ⟨es, by simp [this, hk], rfl⟩
       ·unfold opA
        simp only [hop, hc, stripAt]
        unfold loadS
        rw [hd]
        simp only [if_pos hw]
        rw [ha hl, had]
        simp only [hS, hg, htc]
        rfl
     ·cases h
    ·rename_i s off had
     split at h
     ·rename_i cs hg
      split at h
      ·cases h
      ·rename_i hne
       cases htc : takeCells P t off cs with
       | none => rw [htc] at h; cases h
       | some vc =>
        obtain ⟨v0, cs'⟩ := vc
        rw [htc] at h; cases h
        refine ⟨some (s, .box cs'), st.S, rfl, fun s' w e => ?_, fun _ => SR.refl _, fun st' hS hl => ?_⟩
        ·cases e
         exact ⟨cs, cs', hg, rfl, fun _ => take_strip htc⟩
        ·unfold opA
         simp only [hop, hc, stripAt]
         unfold loadS
         rw [hd]
         simp only [if_pos hw]
         rw [ha hl, had]
         simp only [hl.box _ _ hg, if_neg hne, htc, setO]
         rw [← hS]
         rfl
     ·cases h
    ·cases h
  case store t a x =>
   have hc : consumed pol f o = tmpsOf [x] := by simp [consumed, hop]
   have hst : isStore o = true := by simp [isStore, hop]
   rw [hc] at h ⊢
   unfold storeS at h
   have ha : ∀ {st' : St}, Like (tmpsOf [a, x]) st.env st'.env → adr st'.env a = adr st.env a := fun hl => (adr_congr hl.agree (mem_tmps (by simp))).symm
   have hx : ∀ {st' : St}, Like (tmpsOf [a, x]) st.env st'.env → opt st'.env x = opt st.env x := fun hl => (opt_congr hl.agree (mem_tmps (by simp))).symm
   split at h
   ·rename_i id off had
    split at h
    ·rename_i cs hg
     cases hwc : writeCells P t off cs (opt st.env x) with
     | none => rw [hwc] at h; cases h
     | some cs' =>
      rw [hwc] at h; cases h
      refine ⟨none, st.S.put id (.cells cs'), rfl, (fun _ _ e => nomatch e), (fun hn => by rw [hst] at hn; cases hn), fun st' hS hl => ?_⟩
      unfold opA
      simp only [hop, hc]
      unfold storeS
      rw [ha hl, had, hx hl]
      simp only [hS, hg, hwc]
      rfl
    ·cases h
   ·rename_i s off had
    split at h
    ·rename_i cs hg
     cases hwc : writeCells P t off cs (opt st.env x) with
     | none => rw [hwc] at h; cases h
     | some cs' =>
      rw [hwc] at h; cases h
      have hsx : s ∉ tmpsOf [x] := by
       intro hm
       cases x with
       | tmp t' =>
        simp [tmpsOf] at hm
        subst hm
        simp only [opt] at hwc
        have : st.env.getD s .undef = .box cs := by
         have h0 := hg
         simp only [tmpsOf, List.filterMap_cons, List.filterMap_nil, stripAt] at h0
         simp only [List.getD_eq_getElem?_getD, List.getElem?_set] at h0
         split at h0
         ·split at h0
          ·simp only [Option.getD_some] at h0
           exfalso
           revert h0
           cases (st.env[s]?).getD AV.undef <;> simp [AV.strip, AV.strip1, AV.strip0]
          ·simp [AV.undef] at h0
         ·rename_i hne; exact absurd trivial hne
        rw [this] at hwc
        simp [writeCells, AV.clr, okTop] at hwc
       | _ => simp [tmpsOf] at hm
      have hge : ∀ env : List AV, (stripAt env (tmpsOf [x])).getD s .undef = env.getD s .undef := by
       intro env
       simp only [List.getD_eq_getElem?_getD]
       rw [stripAt_out _ _ _ hsx]
      refine ⟨some (s, .box cs'), st.S, rfl, fun s' w e => ?_, (fun hn => by rw [hst] at hn; cases hn), fun st' hS hl => ?_⟩
      ·cases e
       exact ⟨cs, cs', by rw [← hge]; exact hg, rfl, fun hn => by rw [hst] at hn; cases hn⟩
      ·unfold opA
       simp only [hop, hc]
       unfold storeS
       rw [ha hl, had, hx hl]
       simp only [hge, hl.box _ _ ((hge _).symm.trans hg), hwc, setO]
       rw [← hS]
       rfl
    ·cases h
   ·rename_i id r off had
    split at h
    ·rename_i es rows hg
     split at h
     ·rename_i row hrow
      cases hwc : writeCells P t off row (opt st.env x).strip1 with
      | none => rw [hwc] at h; cases h
      | some row' =>
       rw [hwc] at h; cases h
       refine ⟨none, st.S.put id (.arr es (rows.set r row')), rfl, (fun _ _ e => nomatch e), (fun hn => by rw [hst] at hn; cases hn), fun st' hS hl => ?_⟩
       unfold opA
       simp only [hop, hc]
       unfold storeS
       rw [ha hl, had, hx hl]
       simp only [hS, hg, hrow, hwc]
       rfl
     ·cases h
    ·cases h
   ·cases h
  case call c =>
   obtain ⟨callee, args, ts⟩ := c
   cases callee with
   | value g =>
    simp only at h
    cases hca : calleeA (argsA st.env args.toList) (opd st.env g) with
    | none => rw [hca] at h; cases h
    | some ta => obtain ⟨t, as⟩ := ta; rw [hca] at h; cases h
   | invoke r m => cases hw
   | builtin b =>
    cases b <;> simp only at hw h <;> first | exact (Bool.false_ne_true hw).elim | skip
    have hst : isStore o = true := by simp [isStore, hop]
    have hc : consumed pol f o = [] := by simp [consumed, hop]
    rw [hc] at h ⊢
    split at h
    ·rename_i m k t ts' hma htt
     have hl : ∀ {st' : St} (x : Operand), x ∈ args.toList → Like (tmpsOf args.toList) st.env st'.env → opd st'.env x = opd st.env x := fun x hx hl => (opd_congr hl.agree (mem_tmps hx)).symm
     obtain ⟨S', rfl, h2⟩ := mapDel_eff h
     refine ⟨none, S', rfl, (fun _ _ e => nomatch e), (fun hn => by rw [hst] at hn; cases hn), fun st' hS hl' => ?_⟩
     have hl2 : Like (tmpsOf args.toList) st.env st'.env := by simpa using hl'
     unfold opA
     simp only [hop, hc, hma, htt]
     rw [hl m (by rw [hma]; simp) hl2, hl k (by rw [hma]; simp) hl2]
     exact h2 _ hS
    ·cases h
  case alloc t =>
   have hst : isStore o = true := by simp [isStore, hop]
   have hc : consumed pol f o = [] := by simp [consumed, hop]
   rw [hc] at h ⊢
   cases hz : zeroA P t with
   | none => rw [hz] at h; cases h
   | some z =>
    rw [hz] at h
    cases hd : o.dst with
    | none => rw [hd] at hw; cases hw
    | some d =>
     rw [hd] at hw h
     simp only [Bool.not_eq_true'] at hw
     simp only [newVarA, hw, Bool.false_eq_true, if_false, Option.some.injEq, OR.val.injEq] at h
     obtain ⟨rfl, rfl⟩ := h
     refine ⟨none, st.S.new (.cells z.cells), rfl, (fun _ _ e => nomatch e), (fun hn => by rw [hst] at hn; cases hn), fun st' hS hl => ?_⟩
     unfold opA
     simp only [hop, hc, hz, hd, newVarA, hw, Bool.false_eq_true, if_false, hS]
     rfl
  case box t x =>
   have hst : isStore o = true := by simp [isStore, hop]
   have hc : consumed pol f o = tmpsOf [x] := by simp [consumed, hop]
   rw [hc] at h ⊢
   have hx : ∀ {st' : St}, Like (tmpsOf [x]) st.env st'.env → opt st'.env x = opt st.env x := fun hl => (opt_congr hl.agree (mem_tmps (by simp))).symm
   split at h
   ·rename_i hk
    cases hd : o.dst with
    | none => rw [hd] at hw; cases hw
    | some d =>
     rw [hd] at hw h
     simp only [Bool.not_eq_true'] at hw
     simp only [newVarA, hw, Bool.false_eq_true, if_false, Option.some.injEq, OR.val.injEq] at h
     obtain ⟨rfl, rfl⟩ := h
     refine ⟨none, st.S.new (.cells (opt st.env x).cells), rfl, (fun _ _ e => nomatch e), (fun hn => by rw [hst] at hn; cases hn), fun st' hS hl => ?_⟩
     unfold opA
     simp only [hop, hc, hx hl, hd]
     rw [if_pos hk]
     simp only [newVarA, hw, Bool.false_eq_true, if_false, hS]
     rfl
   ·cases h
  case makeMap t r =>
   cases r with
   | some r => cases hw
   | none =>
    have hst : isStore o = true := by simp [isStore, hop]
    have hc : consumed pol f o = [] := by simp [consumed, hop]
    rw [hc] at h ⊢
    cases h
    refine ⟨none, st.S.new (.map []), rfl, (fun _ _ e => nomatch e), (fun hn => by rw [hst] at hn; cases hn), fun st' hS hl => ?_⟩
    unfold opA
    simp only [hop, hc, hS]
    rfl
  case lookup t m k ok =>
   have hc : consumed pol f o = [] := by simp [consumed, hop]
   rw [hc] at h ⊢
   simp only [show (stripAt st.env []) = st.env from rfl] at h
   cases hv : lookA P st.S t (opd st.env m) (opd st.env k) ok with
   | none => rw [hv] at h; cases h
   | some v1 =>
    rw [hv] at h; cases h
    refine ⟨none, st.S, rfl, (fun _ _ e => nomatch e), fun _ => SR.refl _, fun st' hS hl => ?_⟩
    have hm : opd st'.env m = opd st.env m := (opd_congr hl.agree (mem_tmps (by simp))).symm
    have hk : opd st'.env k = opd st.env k := (opd_congr hl.agree (mem_tmps (by simp))).symm
    unfold opA
    simp only [hop, hc, hm, hk, show (stripAt st'.env []) = st'.env from rfl, hS, hv, Option.map_some, setO]
    try rw [← hS]
  case mapUpdate t m k x =>
   have hst : isStore o = true := by simp [isStore, hop]
   have hc : consumed pol f o = [] := by simp [consumed, hop]
   rw [hc] at h ⊢
   obtain ⟨S', rfl, h2⟩ := mapPut_eff h
   refine ⟨none, S', rfl, (fun _ _ e => nomatch e), (fun hn => by rw [hst] at hn; cases hn), fun st' hS hl => ?_⟩
   have hm : opd st'.env m = opd st.env m := (opd_congr hl.agree (mem_tmps (by simp))).symm
   have hk : opd st'.env k = opd st.env k := (opd_congr hl.agree (mem_tmps (by simp))).symm
   have hx : opd st'.env x = opd st.env x := (opd_congr hl.agree (mem_tmps (by simp))).symm
   unfold opA
   simp only [hop, hc, hm, hk, hx]
   exact h2 _ hS
  case insert t m k x =>
   have hst : isStore o = true := by simp [isStore, hop]
   have hc : consumed pol f o = [] := by simp [consumed, hop]
   rw [hc] at h ⊢
   obtain ⟨S', rfl, h2⟩ := mapPut_eff h
   refine ⟨none, S', rfl, (fun _ _ e => nomatch e), (fun hn => by rw [hst] at hn; cases hn), fun st' hS hl => ?_⟩
   have hm : opd st'.env m = opd st.env m := (opd_congr hl.agree (mem_tmps (by simp))).symm
   have hk : opd st'.env k = opd st.env k := (opd_congr hl.agree (mem_tmps (by simp))).symm
   have hx : opd st'.env x = opd st.env x := (opd_congr hl.agree (mem_tmps (by simp))).symm
   unfold opA
   simp only [hop, hc, hm, hk, hx]
   exact h2 _ hS
theorem opA_wcallA {pol : Pol} {f : FuncId} {pl : List Tmp} {o : Oper} {st st1 : St} {t : Tgt} {as : List AV} (h : opA P pol f pl o st = some (.call t as st1)) :
  st1 = { st with env := stripAt st.env (consumed pol f o) } ∧ ∀ st' : St, Agree (tmpsOf o.op.operands.toList) st.env st'.env → opA P pol f pl o st' = some (.call t as { st' with env := stripAt st'.env (consumed pol f o) }) := by
 obtain ⟨g, args, ts, hop, hc, rfl⟩ := opA_call h
 have hcons : consumed pol f o = tmpsOf args.toList := by simp [consumed, hop]
 refine ⟨by rw [hcons], fun st' ha => ?_⟩
 rw [hop] at ha
 have e1 : argsA st'.env args.toList = argsA st.env args.toList := by
  refine List.map_congr_left fun x hx => ?_
  have hx' : x ∈ (Op.call { callee := .value g, args := args, argTypes := ts }).operands.toList := by simp [Op.operands, Call.operands]; right; simpa using hx
  rw [opt_congr ha (mem_tmps hx'), opd_congr ha (mem_tmps hx')]
 have e2 : opd st'.env g = opd st.env g := (opd_congr ha (mem_tmps (by simp [Op.operands, Call.operands]))).symm
 unfold opA
 simp only [hop, e1, e2, hc]
 rfl
theorem opA_wcall {pol : Pol} {f : FuncId} {pl : List Tmp} {o : Oper} {st st1 : St} {t : Tgt} {as : List AV} (h : opA P pol f pl o st = some (.call t as st1)) :
  st1 = { st with env := stripAt st.env (consumed pol f o) } ∧ ∀ st' : St, Like (tmpsOf o.op.operands.toList) st.env st'.env → opA P pol f pl o st' = some (.call t as { st' with env := stripAt st'.env (consumed pol f o) }) := by
 obtain ⟨g, args, ts, hop, hc, rfl⟩ := opA_call h
 have hcons : consumed pol f o = tmpsOf args.toList := by simp [consumed, hop]
 refine ⟨by rw [hcons], fun st' hl => ?_⟩
 have ha := hl.agree
 rw [hop] at ha
 have e1 : argsA st'.env args.toList = argsA st.env args.toList := by
  refine List.map_congr_left fun x hx => ?_
  have hx' : x ∈ (Op.call { callee := .value g, args := args, argTypes := ts }).operands.toList := by simp [Op.operands, Call.operands]; right; simpa using hx
  rw [opt_congr ha (mem_tmps hx'), opd_congr ha (mem_tmps hx')]
 have e2 : opd st'.env g = opd st.env g := (opd_congr ha (mem_tmps (by simp [Op.operands, Call.operands]))).symm
 unfold opA
 simp only [hop, e1, e2, hc]
 rfl
theorem wanted_congr {ops : Array Oper} {o : Oper} {env env' : List AV} {r : Bool} (h : wantedA ops o env = some r) (ha : Agree (looksA ops o) env env') : wantedA ops o env' = some r := by
 unfold wantedA at h ⊢
 unfold looksA at ha
 cases hg : o.guard with
 | none => rw [hg] at h; exact h
 | some jw =>
  obtain ⟨j, want⟩ := jw
  rw [hg] at h ha
  simp only at h ⊢
  cases hd : (ops[j]?).bind (·.dst) with
  | none => rw [hd] at h; exact h
  | some d =>
   rw [hd] at h
   simp only at h ⊢
   have := ha d (by simp [hd])
   rcases this with e | ⟨cs, cs', e1, e2⟩
   ·rw [← e]; exact h
   ·rw [e1] at h; cases h
end Go.Ab
namespace Go.Ab
variable {P : Program}
def wrAll (pol : Pol) (f : FuncId) (ops : Array Oper) : List Tmp := ops.toList.flatMap fun o => o.dst.toList ++ consumed pol f o
def NB (T : List Tmp) (env : List AV) : Prop := ∀ t ∈ T, ∀ cs, env.getD t .undef ≠ .box cs
theorem getD_set {env : List AV} {t s : Nat} {w : AV} : (env.set s w).getD t .undef = if s = t ∧ t < env.length then w else env.getD t .undef := by
 simp only [List.getD_eq_getElem?_getD, List.getElem?_set]
 by_cases h : s = t
 ·subst h
  by_cases hl : s < env.length
  ·simp [hl]
  ·simp [hl]
 ·simp [h]
theorem strip_nb (v : AV) (cs : List AV) : v.strip ≠ .box cs := by cases v <;> simp [AV.strip, AV.strip1, AV.strip0]
theorem setO_none (env : List AV) : setO env none = env := rfl
theorem stripAt_getD : ∀ (C : List Tmp) (env : List AV) (t : Nat), (stripAt env C).getD t .undef = if t ∈ C ∧ t < env.length then (env.getD t .undef).strip else env.getD t .undef
 | [], env, t => by simp [stripAt]
 | c :: C, env, t => by
  unfold stripAt
  rw [stripAt_getD C, getD_set, List.length_set]
  by_cases hl : t < env.length
  ·by_cases hc : c = t
   ·subst hc
    by_cases hm : c ∈ C
    ·simp [hm, hl, strip_idem]
    ·simp [hm, hl]
   ·have : ¬ t = c := fun e => hc e.symm
    simp [hc, this, hl]
  ·simp [hl]
theorem eff_length (env : List AV) (C : List Tmp) (so : Option (Nat × AV)) (dst : Option Tmp) (v : AV) : (eff env C so dst v).length = env.length := by
 have hs : ∀ e : List AV, (setO e so).length = e.length := by intro e; cases so <;> simp [setO]
 unfold eff
 cases dst <;> simp [hs, stripAt_length]
theorem setO_getD {env : List AV} {so : Option (Nat × AV)} {t : Nat} (h : ∀ s w, so = some (s, w) → s ≠ t) : (setO env so).getD t .undef = env.getD t .undef := by
 cases so with
 | none => rfl
 | some sw =>
  obtain ⟨s, w⟩ := sw
  simp only [setO, getD_set]
  rw [if_neg]; rintro ⟨e, _⟩; exact h s w rfl e
theorem eff_out {env : List AV} {C : List Tmp} {so : Option (Nat × AV)} {dst : Option Tmp} {v : AV} {t : Nat} (hc : t ∉ C) (hd : dst ≠ some t) (hs : ∀ s w, so = some (s, w) → s ≠ t) : (eff env C so dst v).getD t .undef = env.getD t .undef := by
 unfold eff
 cases dst with
 | none => simp only; rw [setO_getD hs, stripAt_getD, if_neg (fun h => hc h.1)]
 | some d =>
  simp only
  rw [getD_set, if_neg (by rintro ⟨e, _⟩; exact hd (by rw [e])), setO_getD hs, stripAt_getD, if_neg (fun h => hc h.1)]
theorem stripAt_set {t : Nat} {w : AV} : ∀ (C : List Tmp) (env : List AV), t ∉ C → stripAt (env.set t w) C = (stripAt env C).set t w
 | [], _, _ => rfl
 | c :: C, env, h => by
  simp only [List.mem_cons, not_or] at h
  unfold stripAt
  rw [getD_set, if_neg (fun e => h.1 e.1), List.set_comm _ _ h.1, stripAt_set C _ h.2]
theorem stripAt_comm : ∀ (D C : List Tmp) (env : List AV), (∀ t ∈ D, t ∉ C) → stripAt (stripAt env C) D = stripAt (stripAt env D) C
 | [], _, _, _ => rfl
 | d :: D, C, env, h => by
  have hd := h d (by simp)
  have e1 : stripAt (stripAt env C) (d :: D) = stripAt ((stripAt env C).set d ((stripAt env C).getD d .undef).strip) D := rfl
  have e2 : stripAt env (d :: D) = stripAt (env.set d (env.getD d .undef).strip) D := rfl
  rw [e1, e2, stripAt_getD, if_neg (fun e => hd e.1), ← stripAt_set C env hd, stripAt_comm D C _ (fun t ht => h t (by simp [ht]))]
theorem set_so {env : List AV} {so : Option (Nat × AV)} {d : Nat} {v : AV} (h : ∀ s w, so = some (s, w) → s ≠ d) : (setO env so).set d v = setO (env.set d v) so := by
 cases so with
 | none => rfl
 | some sw => obtain ⟨s, w⟩ := sw; exact List.set_comm _ _ (h s w rfl)
theorem strip_so {env : List AV} {so : Option (Nat × AV)} {C : List Tmp} (h : ∀ s w, so = some (s, w) → s ∉ C) : stripAt (setO env so) C = setO (stripAt env C) so := by
 cases so with
 | none => rfl
 | some sw => obtain ⟨s, w⟩ := sw; exact stripAt_set C env (h s w rfl)
theorem eff_comm {env : List AV} {Cx Cy : List Tmp} {so : Option (Nat × AV)} {dx dy : Option Tmp} {vx vy : AV} (h1 : ∀ t ∈ Cy, t ∉ Cx) (h2 : ∀ d, dx = some d → d ∉ Cy) (h3 : ∀ d, dy = some d → d ∉ Cx) (h4 : ∀ d, dx = some d → dy ≠ some d)
  (h5 : ∀ s w, so = some (s, w) → s ∉ Cx ∧ dx ≠ some s) : eff (eff env Cx none dx vx) Cy so dy vy = eff (eff env Cy so dy vy) Cx none dx vx := by
 unfold eff
 cases dx with
 | none =>
  cases dy with
  | none =>
   simp only [setO_none]
   rw [stripAt_comm Cy Cx _ h1, strip_so (fun s w e => (h5 s w e).1)]
  | some d =>
   simp only [setO_none]
   rw [stripAt_set _ _ (h3 d rfl), stripAt_comm Cy Cx _ h1, strip_so (fun s w e => (h5 s w e).1)]
 | some dd =>
  cases dy with
  | none =>
   simp only [setO_none]
   rw [stripAt_set _ _ (h2 dd rfl), stripAt_comm Cy Cx _ h1, strip_so (fun s w e => (h5 s w e).1), set_so (fun s w e hh => (h5 s w e).2 (by rw [hh]))]
  | some d =>
   have hne : dd ≠ d := fun e => h4 dd rfl (by rw [e])
   simp only [setO_none]
   rw [stripAt_set _ _ (h2 dd rfl), stripAt_set _ _ (h3 d rfl), stripAt_comm Cy Cx _ h1, strip_so (fun s w e => (h5 s w e).1), ← set_so (fun s w e hh => (h5 s w e).2 (by rw [hh])), List.set_comm _ _ hne]
theorem left_nb {o : Oper} {v : AV} (h : notBox v = true) (cs : List AV) : leftA o v ≠ .box cs := by
 unfold leftA
 split
 ·rintro rfl; cases h
 ·cases v <;> simp [AV.noLp] <;> cases h
theorem puts_eff (st : St) (C : List Tmp) (so : Option (Nat × AV)) (S' : Sto) (dst : Option Tmp) (v : AV) : ({ st with env := setO (stripAt st.env C) so, S := S' } : St).puts dst v = { st with env := eff st.env C so dst v, S := S' } := by
 cases dst <;> rfl
theorem puts_eff0 (st : St) (dst : Option Tmp) (v : AV) : st.puts dst v = { st with env := eff st.env [] none dst v } := by cases dst <;> rfl
theorem looksA_agree {ops : Array Oper} {o : Oper} {env env' : List AV} (h : Agree (looksA ops o) env env') : Agree (tmpsOf o.op.operands.toList) env env' := fun t ht => h t (List.mem_append_left _ ht)
theorem looksA_like {ops : Array Oper} {o : Oper} {env env' : List AV} (h : Like (looksA ops o) env env') : Like (tmpsOf o.op.operands.toList) env env' := ⟨fun t ht => h.at_ t (List.mem_append_left _ ht), h.box⟩
def FreeOK (H : Handler) : Prop := ∀ {g : FuncId} {args : List AV} {S : Sto} {e : AEnd} {S' : Sto}, H.free g = true → H.call (.func g) args S = some (e, S') → ∃ v k, e = .ret v ∧ S' = { heap := S.heap, next := k } ∧ ∀ S2 : Sto, S2.next = S.next → H.call (.func g) args S2 = some (e, { heap := S2.heap, next := k })
theorem SR.next (S : Sto) (k : Nat) : SR S { heap := S.heap, next := k } := ⟨fun _ cs h => ⟨cs, h, rfl⟩, fun _ _ _ h => h, fun _ es h => ⟨es, h, rfl⟩⟩
theorem freeCall_tgt {H : Handler} {pol : Pol} {f : FuncId} {pl : List Tmp} {o : Oper} {st st1 : St} {t : Tgt} {as : List AV} (hf : freeCall H.free o = true) (h : opA P pol f pl o st = some (.call t as st1)) : ∃ g, t = .func g ∧ H.free g = true := by
 obtain ⟨g, args, ts, hop, hc, _⟩ := opA_call h
 unfold freeCall at hf
 rw [hop] at hf
 cases g <;> simp only at hf <;> try cases hf
 rename_i g
 have ho : opd st.env (.func g) = .fn (.func g) [] [] := rfl
 rw [ho] at hc
 simp only [calleeA, Option.some.injEq, Prod.mk.injEq] at hc
 exact ⟨g, hc.1.symm, hf⟩
section
variable {H : Handler} {pol : Pol} {f : FuncId} {ops : Array Oper} {tab : List (Nat × Nat)} {need : Need} {pl : List Tmp}
theorem one_rdr {i : Nat} {o : Oper} {st st1 : St} {e : AExit} (ho : ops[i]? = some o) (hr : rdr pol f o = true) (h : evOne P H pol f ops need pl i st = some (e, st1)) :
  e = .normal ∧ ∃ C v, (∀ t ∈ C, t ∈ consumed pol f o) ∧ (∀ cs, v ≠ .box cs) ∧ st1 = { st with env := eff st.env C none o.dst v } ∧
   ∀ st' : St, Agree (looksA ops o) st.env st'.env → (looksS o = true → LookS P o st st') → evOne P H pol f ops need pl i st' = some (.normal, { st' with env := eff st'.env C none o.dst v }) := by
 unfold evOne at h
 simp only [opK_eq] at h
 simp only [ho] at h
 cases hw : wantedA ops o st.env with
 | none => rw [hw] at h; cases h
 | some w =>
  rw [hw] at h
  cases w with
  | false =>
   cases h
   refine ⟨rfl, [], .undef, by simp, by simp [AV.undef], puts_eff0 _ _ _, fun st' ha _ => ?_⟩
   unfold evOne
   simp only [opK_eq]
   simp only [ho, wanted_congr hw ha]
   rw [puts_eff0]
  | true =>
   simp only at h
   cases hop : opA P pol f pl o st with
   | none => rw [hop] at h; cases h
   | some r =>
    obtain ⟨v, rfl, hf⟩ := opA_rdr hr hop
    rw [hop] at h
    simp only at h
    split at h
    ·rename_i hn
     cases h
     refine ⟨rfl, consumed pol f o, leftA o v, fun _ h => h, left_nb hn, ?_, fun st' ha hs => ?_⟩
     ·exact puts_eff st _ none st.S _ _
     ·unfold evOne
      simp only [opK_eq]
      simp only [ho, wanted_congr hw ha, hf st' (looksA_agree ha) hs, hn, if_true]
      exact congrArg some (congrArg (Prod.mk AExit.normal) (puts_eff st' _ none st'.S _ _))
    ·cases h
def FixS (env : List AV) (fx : List Nat) (S S' : Sto) : Prop := ∀ t ∈ fx, (∀ id off, env.getD t .undef = .ptr id off → ∀ cs, S.get id = some (.cells cs) → ∃ cs', S'.get id = some (.cells cs') ∧ cs'.map AV.strip0 = cs.map AV.strip0) ∧
 ∀ id r off, env.getD t .undef = .aptr id r off → ∀ es rows, S.get id = some (.arr es rows) → S'.get id = some (.arr es rows)
theorem SR.fix {S S' : Sto} (h : SR S S') (env : List AV) (fx : List Nat) : FixS env fx S S' := fun _ _ => ⟨fun id _ _ cs hc => h.cells id cs hc, fun id _ _ _ es rows hr => h.arr id es rows hr⟩
theorem sameFix_fix {env : List AV} {fx : List Nat} {S S' : Sto} (h : sameFix env fx S S' = true) : FixS env fx S S' := by
 intro t ht
 have h1 := List.all_eq_true.1 h t ht
 refine ⟨fun id off he cs hc => ?_, fun id r off he => ?_⟩
 ·simp only [he, hc] at h1
  split at h1
  ·rename_i cs' hg
   rw [sameL_eq _ _ h1]
   exact ⟨cs', hg, rfl⟩
  ·cases h1
 ·simp only [he] at h1
  cases h1
theorem fix_load {env E env3 : List AV} {fx : List Nat} {S S' : Sto} {a : Nat} {t : TypeId} {v : AV} (hb : BxS env env3) (hE : E.getD a .undef = env.getD a .undef) (hf : FixS E fx S S') (ha : a ∈ fx) (hv : loadA P S env t (adr env (.tmp a)) = some v) : loadA P S' env3 t (adr env (.tmp a)) = some v := by
 obtain ⟨f1, f2⟩ := hf a ha
 rw [hE] at f1 f2
 have hadr : ∀ w, adr env (.tmp a) = w → (∀ s o, w ≠ .lptr s o) → env.getD a .undef = w := by
  intro w hw hn
  simp only [adr] at hw
  split at hw
  ·exact absurd hw.symm (hn _ _)
  ·exact hw
 generalize hA : adr env (.tmp a) = A at hv hadr ⊢
 unfold loadA at hv ⊢
 split at hv
 ·rename_i id off
  split at hv
  ·rename_i cs hg
   obtain ⟨cs', h1, h2⟩ := f1 id off (hadr _ rfl (by simp)) cs hg
   simp only [h1]
   rw [List.map_drop, h2, ← List.map_drop]; exact hv
  ·cases hv
 ·split at hv
  ·rename_i s off cs hg
   obtain ⟨cs', h1, h2⟩ := hb _ _ hg
   simp only [h1]
   rw [List.map_drop, h2, ← List.map_drop]; exact hv
  ·cases hv
 ·exact hv
 ·rename_i id r off
  split at hv
  ·rename_i es rows hg
   simp only [f2 id r off (hadr _ rfl (by simp)) es rows hg]
   exact hv
  ·cases hv
 ·cases hv
theorem Like.left {L M : List Tmp} {env env' : List AV} (h : Like (L ++ M) env env') : Like L env env' := ⟨fun t ht => h.at_ t (List.mem_append_left _ ht), h.box⟩
theorem all_congr' {l : List Nat} {p q : Nat → Bool} (h : ∀ t ∈ l, p t = q t) : l.all p = l.all q := by
 induction l with
 | nil => rfl
 | cons a l ih => simp only [List.all_cons]; rw [h a (by simp), ih (fun t ht => h t (by simp [ht]))]
theorem sameFix_like {L : List Tmp} {env env' : List AV} {C : List Tmp} {fx : List Nat} {S S' : Sto} (hl : Like (L ++ fx) env env') : sameFix (stripAt env' C) fx S S' = sameFix (stripAt env C) fx S S' := by
 unfold sameFix
 let g : AV → Bool := fun v => match v with
  | .ptr id _ => match S.get id with
   | some (.cells cs) => match S'.get id with
    | some (.cells cs') => sameL cs cs'
    | _ => false
   | _ => true
  | .aptr _ _ _ => false
  | _ => true
 have hg : ∀ v, g v.strip = g v := fun v => by cases v <;> rfl
 refine all_congr' fun t ht => ?_
 show g ((stripAt env' C).getD t .undef) = g ((stripAt env C).getD t .undef)
 rw [stripAt_getD, stripAt_getD, hl.at_ t (List.mem_append_right _ ht)]
 have h1 : ∀ c : Prop, [Decidable c] → g (if c then (env.getD t AV.undef).strip else env.getD t AV.undef) = g (env.getD t AV.undef) := fun c _ => by
  split
  ·exact hg _
  ·rfl
 rw [h1, h1]
theorem callOK_like {L : List Tmp} {env env' : List AV} {C : List Tmp} {fx : List Nat} {S S' : Sto} {a b c : Bool} (hl : Like (L ++ fx) env env') (h : (a && (b && (c || sameFix (stripAt env C) fx S S'))) = true) : (a && (b && (c || sameFix (stripAt env' C) fx S S'))) = true := by
 rw [sameFix_like hl]; exact h
theorem one_any (hfr : FreeOK H) {j : Nat} {o : Oper} {st st1 : St} {e : AExit} (ho : ops[j]? = some o) (hk : rdr pol f o = true ∨ wrt pol f o = true) (h : evOne P H pol f ops need pl j st = some (e, st1)) :
  ∃ C so v S', (∀ t ∈ C, t ∈ consumed pol f o) ∧ (∀ cs, v ≠ .box cs) ∧ (∀ s w, so = some (s, w) → ∃ cs cs', st.env.getD s .undef = .box cs ∧ w = .box cs' ∧ (isStore o = false → cs'.map AV.strip0 = cs.map AV.strip0)) ∧
   (e = .normal → isStore o = false → (need.strict.contains j = true → SR st.S S') ∧ (need.fix.contains j = true → FixS (stripAt st.env C) need.fx st.S S')) ∧
   ((e = .normal ∧ st1 = { st with env := eff st.env C so o.dst v, S := S' } ∧
    ∀ st' : St, st'.S = st.S → Like (looksA ops o ++ need.fx) st.env st'.env → evOne P H pol f ops need pl j st' = some (e, { st' with env := eff st'.env C so o.dst v, S := S' })) ∨
    ((∃ ch, e = .pan ch) ∧ st1 = { st with env := stripAt st.env C, S := S' } ∧
    ∀ st' : St, st'.S = st.S → Like (looksA ops o ++ need.fx) st.env st'.env → evOne P H pol f ops need pl j st' = some (e, { st' with env := stripAt st'.env C, S := S' }))) := by
 unfold evOne at h
 simp only [opK_eq] at h
 simp only [ho] at h
 cases hw : wantedA ops o st.env with
 | none => rw [hw] at h; cases h
 | some w =>
  rw [hw] at h
  cases w with
  | false =>
   cases h
   refine ⟨[], none, .undef, st.S, by simp, by simp [AV.undef], (fun _ _ e => nomatch e), fun _ _ => ⟨fun _ => SR.refl _, fun _ => (SR.refl _).fix _ _⟩, .inl ⟨rfl, puts_eff0 _ _ _, fun st' hS hl0 => ?_⟩⟩
   have hl := hl0.left
   unfold evOne
   simp only [opK_eq]
   simp only [ho, wanted_congr hw hl.agree]
   rw [puts_eff0, ← hS]
  | true =>
   simp only at h
   cases hop : opA P pol f pl o st with
   | none => rw [hop] at h; cases h
   | some r =>
    rw [hop] at h
    cases r with
    | val v st2 =>
     simp only at h
     split at h
     ·rename_i hn
      cases h
      obtain ⟨so, S', rfl, h1, h2, h3⟩ := opA_wrt hk hop
      refine ⟨consumed pol f o, so, leftA o v, S', fun _ h => h, left_nb hn, h1, fun _ hs => ⟨fun _ => h2 hs, fun _ => (h2 hs).fix _ _⟩, .inl ⟨rfl, puts_eff st _ so S' _ _, fun st' hS hl0 => ?_⟩⟩
      have hl := hl0.left
      unfold evOne
      simp only [opK_eq]
      simp only [ho, wanted_congr hw hl.agree, h3 st' hS (looksA_like hl), hn, if_true]
      exact congrArg some (congrArg (Prod.mk AExit.normal) (puts_eff st' _ so S' _ _))
     ·cases h
    | pan ch st2 =>
     exfalso
     obtain ⟨x, t, v, hpo, _⟩ := opA_pan hop
     rcases hk with hk | hk
     ·simp [rdr, hpo, isPure] at hk
     ·simp [wrt, hpo] at hk
    | call t as st2 =>
     obtain ⟨rfl, hf⟩ := opA_wcall hop
     simp only at h
     cases hc : H.call t as st.S with
     | none => rw [hc] at h; cases h
     | some r =>
      obtain ⟨e1, S1⟩ := r
      rw [hc] at h
      cases e1 with
      | ret v =>
       simp only at h
       split at h
       ·rename_i hn
        cases h
        have hn0 := hn
        simp only [Bool.and_eq_true, Bool.or_eq_true, Bool.not_eq_true'] at hn
        obtain ⟨hn1, hn2, hn3⟩ := hn
        refine ⟨consumed pol f o, none, leftA o v, S1, fun _ h => h, left_nb hn1, (fun _ _ e => nomatch e), fun _ _ => ⟨fun hneed => ?_, fun hneed => ?_⟩, .inl ⟨rfl, puts_eff st _ none S1 _ _, fun st' hS hl0 => ?_⟩⟩
        ·rcases hn2 with (h | h) | h
         ·rw [h] at hneed; cases hneed
         ·obtain ⟨g, rfl, hg⟩ := freeCall_tgt h hop
          obtain ⟨v', k, _, rfl, _⟩ := hfr hg hc
          exact SR.next _ _
         ·exact sameOld_sr h
        ·rcases hn3 with (h | h) | h
         ·rw [h] at hneed; cases hneed
         ·obtain ⟨g, rfl, hg⟩ := freeCall_tgt h hop
          obtain ⟨v', k, _, rfl, _⟩ := hfr hg hc
          exact (SR.next _ _).fix _ _
         ·exact sameFix_fix h
        ·have hl := hl0.left
         unfold evOne
         simp only [opK_eq]
         simp only [ho, wanted_congr hw hl.agree, hf st' (looksA_like hl)]
         simp only [hS, hc]
         rw [if_pos (callOK_like hl0 hn0)]
         exact congrArg some (congrArg (Prod.mk AExit.normal) (puts_eff st' _ none S1 _ _))
       ·cases h
      | pan ch =>
       cases h
       refine ⟨consumed pol f o, none, .unk, S1, fun _ h => h, by simp, (fun _ _ e => nomatch e), (fun e => nomatch e), .inr ⟨⟨ch, rfl⟩, rfl, fun st' hS hl0 => ?_⟩⟩
       have hl := hl0.left
       unfold evOne
       simp only [opK_eq]
       simp only [ho, wanted_congr hw hl.agree, hf st' (looksA_like hl), hS, hc]
structure PanEnv (pol : Pol) (f : FuncId) (ops : Array Oper) (a b : List AV) : Prop where
 len : a.length = b.length
 all : ∀ t, (∀ o ∈ ops.toList, o.dst ≠ some t) → (a.getD t .undef).strip = (b.getD t .undef).strip ∧ ((∀ o ∈ ops.toList, t ∉ consumed pol f o) → a.getD t .undef = b.getD t .undef)
structure PanSt (pol : Pol) (f : FuncId) (ops : Array Oper) (a b : St) : Prop where
 env : PanEnv pol f ops a.env b.env
 S : a.S = b.S
 defs : a.defs = b.defs
 par : a.par = b.par
theorem PanSt.trans {a b c : St} (h : PanSt pol f ops a b) (h' : PanSt pol f ops b c) : PanSt pol f ops a c :=
 ⟨⟨h.env.len.trans h'.env.len, fun t ht => ⟨((h.env.all t ht).1).trans (h'.env.all t ht).1, fun hc => ((h.env.all t ht).2 hc).trans ((h'.env.all t ht).2 hc)⟩⟩, h.S.trans h'.S, h.defs.trans h'.defs, h.par.trans h'.par⟩
def EqR (pol : Pol) (f : FuncId) (ops : Array Oper) (r r' : AExit × St) : Prop := r = r' ∨ (r.1 = r'.1 ∧ (∃ ch, r.1 = .pan ch) ∧ PanSt pol f ops r.2 r'.2)
theorem EqR.trans {a b c : AExit × St} (h : EqR pol f ops a b) (h' : EqR pol f ops b c) : EqR pol f ops a c := by
 rcases h with rfl | ⟨h1, h2, h3⟩
 ·exact h'
 ·rcases h' with rfl | ⟨g1, g2, g3⟩
  ·exact .inr ⟨h1, h2, h3⟩
  ·exact .inr ⟨h1.trans g1, h2, h3.trans g3⟩
theorem mem_wr {o : Oper} {i : Nat} (ho : ops[i]? = some o) {t : Tmp} (h : t ∈ consumed pol f o ∨ o.dst = some t) : t ∈ wrAll pol f ops := by
 refine List.mem_flatMap.2 ⟨o, List.mem_of_getElem? (by rw [Array.getElem?_toList]; exact ho), ?_⟩
 rcases h with h | h
 ·exact List.mem_append_right _ h
 ·rw [h]; simp
theorem cons_looks {o : Oper} {t : Tmp} (h : t ∈ consumed pol f o) : t ∈ looksA ops o := by
 refine List.mem_append_left _ ?_
 have one : ∀ {xs ys : List Operand}, (∀ x ∈ xs, x ∈ ys) → t ∈ tmpsOf xs → t ∈ tmpsOf ys := by
  intro xs ys hs hm
  obtain ⟨x, hx, he⟩ := List.mem_filterMap.1 hm
  exact List.mem_filterMap.2 ⟨x, hs x hx, he⟩
 unfold consumed at h
 split at h
 ·rename_i hop
  split at h
  ·split at h
   ·rw [hop]; exact one (by simp [Op.operands]) h
   ·cases h
  ·cases h
 ·rename_i hop; rw [hop]; exact one (by simp [Op.operands]) h
 ·rename_i hop; rw [hop]; exact one (by simp [Op.operands]) h
 ·rename_i hop; rw [hop]; exact one (by simp [Op.operands]) h
 ·rename_i hop; rw [hop]; exact one (by simp [Op.operands]) h
 ·rename_i hop; rw [hop]; exact one (by simp [Op.operands]) h
 ·rename_i ps hop
  split at h
  ·rename_i i x hps
   rw [hop]
   refine one ?_ h
   intro y hy
   simp at hy; subst hy
   simp only [Op.operands]
   have : (i, y) ∈ ps := by rw [← Array.mem_toList_iff, hps]; simp
   simp
   exact ⟨i, this⟩
  ·cases h
 ·rename_i hop; rw [hop]
  refine one (fun x hx => ?_) h
  have := List.mem_of_mem_take hx
  simp [Op.operands, Call.operands]; simpa using this
 ·rename_i hop; rw [hop]
  refine one (fun x hx => ?_) h
  simp [Op.operands, Call.operands]; right; simpa using hx
 ·cases h
theorem disj_spec {a b : List Tmp} (h : disj a b = true) : ∀ t ∈ a, t ∉ b := by
 intro t ht hb
 have := List.all_eq_true.1 h t ht
 simp at this
 exact this hb
theorem look_of {o : Oper} {st st' : St} (h1 : BxS st.env st'.env) (h2 : BxS st.env st'.env → SR st.S st'.S ∨ ∃ t a, o.op = .load t a ∧ ∀ v, loadA P st.S st.env t (adr st.env a) = some v → loadA P st'.S st'.env t (adr st.env a) = some v) : LookS P o st st' := ⟨h1, h2 h1⟩
theorem swap (hfr : FreeOK H) {i j : Nat} {x y : Oper} {st st1 st2 : St} {e : AExit} (hx : ops[i]? = some x) (hy : ops[j]? = some y) (hrx : rdr pol f x = true) (hky : rdr pol f y = true ∨ wrt pol f y = true) (hap : apartA pol f ops x y = true)
  (hst : looksS x = true → isStore y = false ∧ (need.strict.contains j = true ∨ isFix need.fx x = true ∧ need.fix.contains j = true)) (hfxs : ∀ t ∈ need.fx, t ∉ wrAll pol f ops) (hnb : NB (wrAll pol f ops) st.env) (h1 : evOne P H pol f ops need pl i st = some (.normal, st1)) (h2 : evOne P H pol f ops need pl j st1 = some (e, st2)) :
  ∃ st1', evOne P H pol f ops need pl j st = some (e, st1') ∧ ((e = .normal ∧ evOne P H pol f ops need pl i st1' = some (.normal, st2)) ∨ ((∃ ch, e = .pan ch) ∧ PanSt pol f ops st2 st1')) := by
 simp only [apartA, Bool.and_eq_true] at hap
 obtain ⟨⟨⟨⟨a1, a2⟩, a3⟩, a4⟩, a5⟩ := hap
 obtain ⟨_, Cx, vx, c1, c2, rfl, hfx⟩ := one_rdr hx hrx h1
 obtain ⟨Cy, so, vy, S', d1, d2, d3, d4, d5⟩ := one_any hfr hy hky h2
 have dx_looks : ∀ t ∈ looksA ops y, x.dst ≠ some t := fun t ht e => disj_spec a1 t (by rw [e]; simp) ht
 have cx_looks : ∀ t ∈ looksA ops y, t ∉ Cx := fun t ht hc => disj_spec a4 t (c1 t hc) ht
 have dy_looks : ∀ t ∈ looksA ops x, y.dst ≠ some t := fun t ht e => disj_spec a3 t (by rw [e]; simp) ht
 have cy_looks : ∀ t ∈ looksA ops x, t ∉ Cy := fun t ht hc => disj_spec a5 t (d1 t hc) ht
 -- what the first leaves is not told by the second
 have like : Like (looksA ops y) (eff st.env Cx none x.dst vx) st.env := by
  refine ⟨fun t ht => ?_, fun s cs hs => ?_⟩
  ·rw [eff_out (so := none) (cx_looks t ht) (dx_looks t ht) (fun _ _ e => nomatch e)]
  ·by_cases hc : s ∈ Cx
   ·exfalso
    unfold eff at hs
    cases hd : x.dst with
    | none =>
     rw [hd] at hs; simp only [setO, stripAt_getD] at hs
     split at hs
     ·exact strip_nb _ _ hs
     ·exact hnb s (mem_wr hx (.inl (c1 s hc))) cs hs
    | some d =>
     rw [hd] at hs; simp only [setO, getD_set, stripAt_getD] at hs
     split at hs
     ·exact c2 cs hs
     ·split at hs
      ·exact strip_nb _ _ hs
      ·exact hnb s (mem_wr hx (.inl (c1 s hc))) cs hs
   ·by_cases hd : x.dst = some s
    ·exfalso
     rw [hd] at hs
     simp only [eff, setO, getD_set, stripAt_getD] at hs
     split at hs
     ·exact c2 cs hs
     ·rw [if_neg (fun h => hc h.1)] at hs
      exact hnb s (mem_wr hx (.inr hd)) cs hs
    ·rwa [eff_out (so := none) hc hd (fun _ _ e => nomatch e)] at hs
 have like' : Like (looksA ops y ++ need.fx) (eff st.env Cx none x.dst vx) st.env := by
  refine ⟨fun t ht => ?_, like.box⟩
  rcases List.mem_append.1 ht with ht | ht
  ·exact like.at_ t ht
  ·exact (eff_out (so := none) (fun h => hfxs t ht (mem_wr hx (.inl (c1 t h)))) (fun h => hfxs t ht (mem_wr hx (.inr h))) (fun _ _ e => nomatch e)).symm
 have so_box : ∀ s w, so = some (s, w) → ∃ cs, st.env.getD s .undef = .box cs := by
  intro s w e
  obtain ⟨cs, cs', h, _⟩ := d3 s w e
  exact ⟨cs, like.box s cs h⟩
 have so_wr : ∀ s w, so = some (s, w) → s ∉ wrAll pol f ops := by
  intro s w e hm
  obtain ⟨cs, h⟩ := so_box s w e
  exact hnb s hm cs h
 rcases d5 with ⟨rfl, rfl, hfy⟩ | ⟨⟨ch, rfl⟩, rfl, hfy⟩
 ·have hy1 := hfy st rfl like'
  refine ⟨_, hy1, .inl ⟨rfl, ?_⟩⟩
  have := hfx { st with env := eff st.env Cy so y.dst vy, S := S' } (fun t ht => ?_) (fun hl => look_of (fun s cs hs => ?_) ?_)
  ·rw [this]
   refine congrArg some (congrArg (Prod.mk AExit.normal) ?_)
   have hcomm : eff (eff st.env Cx none x.dst vx) Cy so y.dst vy = eff (eff st.env Cy so y.dst vy) Cx none x.dst vx :=
    eff_comm (fun t ht hc => cy_looks t (cons_looks (c1 t hc)) ht) (fun d hd hm => dx_looks d (cons_looks (d1 d hm)) hd) (fun d hd hm => dy_looks d (cons_looks (c1 d hm)) hd)
     (fun d hd hd' => disj_spec a2 d (by rw [hd]; simp) (by rw [hd']; simp)) (fun s w e => ⟨fun hm => so_wr s w e (mem_wr hx (.inl (c1 s hm))), fun hd => so_wr s w e (mem_wr hx (.inr hd))⟩)
   simp only [hcomm]
  ·-- what the second leaves is not told by the first
   by_cases hs : ∃ w, so = some (t, w)
   ·obtain ⟨w, hs⟩ := hs
    right
    obtain ⟨cs, cs', h, rfl, _⟩ := d3 t w hs
    refine ⟨cs, cs', like.box t cs h, ?_⟩
    have hnd : y.dst ≠ some t := fun e => so_wr t _ hs (mem_wr hy (.inr e))
    have hlt : t < st.env.length := by
     have := like.box t cs h
     refine Classical.byContradiction fun hn => ?_
     simp [List.getD, hn, AV.undef] at this
    rw [hs]
    unfold eff
    cases hyd : y.dst with
    | none => simp only [setO, getD_set, stripAt_length]; rw [if_pos ⟨trivial, hlt⟩]
    | some d =>
     simp only [setO, getD_set, List.length_set, stripAt_length]
     rw [if_neg (by rintro ⟨e, _⟩; exact hnd (by rw [hyd, e])), if_pos ⟨trivial, hlt⟩]
   ·left
    exact (eff_out (cy_looks t ht) (dy_looks t ht) (fun s w e hst => hs ⟨w, by rw [e, hst]⟩)).symm
  ·have hstore := hst hl
   by_cases hs' : ∃ w, so = some (s, w)
   ·obtain ⟨w, hs'⟩ := hs'
    obtain ⟨cs0, cs', h, rfl, h3⟩ := d3 s w hs'
    have hb := like.box s cs0 h
    rw [hb] at hs; cases hs
    have hnd : y.dst ≠ some s := fun e => so_wr s _ hs' (mem_wr hy (.inr e))
    have hlt : s < st.env.length := by
     refine Classical.byContradiction fun hn => ?_
     simp [List.getD, hn, AV.undef] at hb
    refine ⟨cs', ?_, h3 hstore.1⟩
    rw [hs']
    unfold eff
    cases hyd : y.dst with
    | none => simp only [setO, getD_set, stripAt_length]; rw [if_pos ⟨trivial, hlt⟩]
    | some d =>
     simp only [setO, getD_set, List.length_set, stripAt_length]
     rw [if_neg (by rintro ⟨e, _⟩; exact hnd (by rw [hyd, e])), if_pos ⟨trivial, hlt⟩]
   ·refine ⟨cs, ?_, rfl⟩
    rw [eff_out (fun hm => hnb s (mem_wr hy (.inl (d1 s hm))) cs hs) (fun hd => hnb s (mem_wr hy (.inr hd)) cs hs) (fun s' w e hst => hs' ⟨w, by rw [e, hst]⟩)]
    exact hs
  ·intro hbx
   rcases (hst hl).2 with hn | ⟨hxf, hn⟩
   ·exact .inl ((d4 rfl (hst hl).1).1 hn)
   ·right
    unfold isFix at hxf
    split at hxf
    ·rename_i ty a hxo
     refine ⟨ty, .tmp a, hxo, fun v hv => ?_⟩
     have ham : a ∈ need.fx := by simpa using hxf
     have haw := hfxs a ham
     refine fix_load hbx ?_ ((d4 rfl (hst hl).1).2 hn) ham hv
     rw [stripAt_getD, if_neg (fun h => haw (mem_wr hy (.inl (d1 a h.1))))]
     exact eff_out (so := none) (fun h => haw (mem_wr hx (.inl (c1 a h)))) (fun h => haw (mem_wr hx (.inr h))) (fun _ _ e => nomatch e)
    ·cases hxf
 ·have hy1 := hfy st rfl like'
  refine ⟨_, hy1, .inr ⟨⟨ch, rfl⟩, ⟨?_, fun t ht => ?_⟩, rfl, rfl, rfl⟩⟩
  ·simp only [stripAt_length, eff_length]
  ·have hxd : x.dst ≠ some t := ht x (List.mem_of_getElem? (by rw [Array.getElem?_toList]; exact hx))
   have he : ∀ (h : t ∉ Cx), (eff st.env Cx none x.dst vx).getD t .undef = st.env.getD t .undef := fun h => eff_out h hxd (fun _ _ e => nomatch e)
   have hes : ((eff st.env Cx none x.dst vx).getD t .undef).strip = (st.env.getD t .undef).strip := by
    by_cases hc : t ∈ Cx
    ·have : (eff st.env Cx none x.dst vx).getD t .undef = (stripAt st.env Cx).getD t .undef := by
      unfold eff
      cases hd : x.dst with
      | none => rfl
      | some d => simp only [setO]; rw [getD_set, if_neg (by rintro ⟨e, _⟩; exact hxd (by rw [hd, e]))]
     rw [this, stripAt_getD]
     split
     ·exact strip_idem _
     ·rfl
    ·rw [he hc]
   refine ⟨?_, fun hcons => ?_⟩
   ·simp only [stripAt_getD, eff_length]
    split
    ·rw [strip_idem, strip_idem]; exact hes
    ·exact hes
   ·have hcx : t ∉ Cx := fun hm => hcons x (List.mem_of_getElem? (by rw [Array.getElem?_toList]; exact hx)) (c1 t hm)
    have hcy : t ∉ Cy := fun hm => hcons y (List.mem_of_getElem? (by rw [Array.getElem?_toList]; exact hy)) (d1 t hm)
    simp only [stripAt_getD]
    rw [if_neg (fun h => hcy h.1), if_neg (fun h => hcy h.1), he hcx]
def St.nx (st : St) (k : Nat) : St := { st with S := { heap := st.S.heap, next := k } }
def OR.nx (k : Nat) : OR → OR
 | .val v st => .val v (st.nx k)
 | .call t as st => .call t as (st.nx k)
 | .pan ch st => .pan ch (st.nx k)
theorem load_next {o : Oper} (hl : isLoad o = true) (st : St) (k : Nat) : opA P pol f pl o (st.nx k) = (opA P pol f pl o st).map (OR.nx k) := by
 unfold isLoad at hl
 cases hop : o.op <;> rw [hop] at hl <;> simp only at hl <;> first | (cases hl; done) | skip
 rename_i t a
 unfold opA
 simp only [hop, loadS, St.nx]
 cases o.dst with
 | none => rfl
 | some d =>
  simp only
  split
  ·split
   ·rename_i id off had
    simp only [Sto.get]
    cases hg : Sto.look id st.S.heap with
    | none => rfl
    | some ob =>
     cases ob <;> simp only <;> try rfl
     rename_i cs
     cases takeCells P t off cs <;> rfl
   ·rename_i s off had
    cases hg : (stripAt st.env (consumed pol f o)).getD s .undef <;> simp only <;> try rfl
    rename_i cs
    split
    ·rfl
    ·cases takeCells P t off cs <;> rfl
   ·rfl
  ·have : loadA P { heap := st.S.heap, next := k } (stripAt st.env (consumed pol f o)) t (adr st.env a) = loadA P st.S (stripAt st.env (consumed pol f o)) t (adr st.env a) := rfl
   rw [this]
   cases loadA P st.S (stripAt st.env (consumed pol f o)) t (adr st.env a) <;> rfl
theorem load_val {o : Oper} (hl : isLoad o = true) {st : St} {r : OR} (h : opA P pol f pl o st = some r) : ∃ v st1, r = .val v st1 := by
 cases r with
 | val v st1 => exact ⟨v, st1, rfl⟩
 | call t as st1 =>
  obtain ⟨g, args, ts, hop, _⟩ := opA_call h
  simp [isLoad, hop] at hl
 | pan ch st1 =>
  obtain ⟨x, t, v, hop, _⟩ := opA_pan h
  simp [isLoad, hop] at hl
theorem one_load_next {i : Nat} {o : Oper} (ho : ops[i]? = some o) (hl : isLoad o = true) (st : St) (k : Nat) : evOne P H pol f ops need pl i (st.nx k) = (evOne P H pol f ops need pl i st).map (fun r => (r.1, r.2.nx k)) := by
 unfold evOne
 simp only [opK_eq]
 simp only [ho]
 have : (st.nx k).env = st.env := rfl
 rw [this, load_next hl]
 cases hw : wantedA ops o st.env with
 | none => rfl
 | some w =>
  cases w with
  | false => cases hd : o.dst <;> rfl
  | true =>
   simp only
   cases hop : opA P pol f pl o st with
   | none => rfl
   | some r =>
    obtain ⟨v, st1, rfl⟩ := load_val hl hop
    simp only [Option.map_some, OR.nx]
    by_cases hn : notBox v = true
    ·rw [if_pos hn, if_pos hn]
     cases hd : o.dst <;> rfl
    ·rw [if_neg hn, if_neg hn]; rfl
theorem one_load {i : Nat} {o : Oper} {st st1 : St} {e : AExit} (ho : ops[i]? = some o) (hl : isLoad o = true) (h : evOne P H pol f ops need pl i st = some (e, st1)) : e = .normal := by
 unfold evOne at h
 simp only [opK_eq] at h
 simp only [ho] at h
 cases hw : wantedA ops o st.env with
 | none => rw [hw] at h; cases h
 | some w =>
  rw [hw] at h
  cases w with
  | false => cases h; rfl
  | true =>
   simp only at h
   cases hop : opA P pol f pl o st with
   | none => rw [hop] at h; cases h
   | some r =>
    obtain ⟨v, sv, rfl⟩ := load_val hl hop
    rw [hop] at h
    simp only at h
    split at h
    ·cases h; rfl
    ·cases h
theorem one_free (hfr : FreeOK H) {j : Nat} {o : Oper} {st st1 : St} {e : AExit} (ho : ops[j]? = some o) (hf : freeCall H.free o = true) (h : evOne P H pol f ops need pl j st = some (e, st1)) :
  e = .normal ∧ ∃ C v k, (∀ t ∈ C, t ∈ consumed pol f o) ∧ (∀ cs, v ≠ .box cs) ∧ st1 = ({ st with env := eff st.env C none o.dst v } : St).nx k ∧
   ∀ st' : St, st'.S.next = st.S.next → Agree (looksA ops o) st.env st'.env → evOne P H pol f ops need pl j st' = some (.normal, ({ st' with env := eff st'.env C none o.dst v } : St).nx k) := by
 unfold evOne at h
 simp only [opK_eq] at h
 simp only [ho] at h
 cases hw : wantedA ops o st.env with
 | none => rw [hw] at h; cases h
 | some w =>
  rw [hw] at h
  cases w with
  | false =>
   cases h
   refine ⟨rfl, [], .undef, st.S.next, by simp, by simp [AV.undef], by rw [puts_eff0]; rfl, fun st' hS ha => ?_⟩
   unfold evOne
   simp only [opK_eq]
   simp only [ho, wanted_congr hw ha]
   rw [puts_eff0, ← hS]; rfl
  | true =>
   simp only at h
   cases hop : opA P pol f pl o st with
   | none => rw [hop] at h; cases h
   | some r =>
    rw [hop] at h
    obtain ⟨g0, hcg⟩ : ∃ g, o.op = g := ⟨_, rfl⟩
    cases r with
    | val v st2 =>
     exfalso
     unfold freeCall at hf
     split at hf
     ·rename_i g args ts hcall
      unfold opA at hop
      simp only [hcall] at hop
      cases hca : calleeA (argsA st.env args.toList) (opd st.env (.func g)) with
      | none => rw [hca] at hop; cases hop
      | some ta => obtain ⟨t, as⟩ := ta; rw [hca] at hop; cases hop
     ·cases hf
    | pan ch st2 =>
     exfalso
     obtain ⟨x, t, v, hpo, _⟩ := opA_pan hop
     simp [freeCall, hpo] at hf
    | call t as st2 =>
     obtain ⟨g, rfl, hg⟩ := freeCall_tgt hf hop
     obtain ⟨rfl, hfop⟩ := opA_wcallA hop
     simp only at h
     cases hc : H.call (.func g) as st.S with
     | none => rw [hc] at h; cases h
     | some r =>
      obtain ⟨e1, S1⟩ := r
      rw [hc] at h
      obtain ⟨v, k, rfl, rfl, hall⟩ := hfr hg hc
      simp only at h
      split at h
      ·rename_i hn
       cases h
       simp only [Bool.and_eq_true] at hn
       refine ⟨rfl, consumed pol f o, leftA o v, k, fun _ h => h, left_nb hn.1, ?_, fun st' hS ha => ?_⟩
       ·exact puts_eff st _ none { heap := st.S.heap, next := k } _ _
       ·unfold evOne
        simp only [opK_eq]
        simp only [ho, wanted_congr hw ha, hfop st' (looksA_agree ha)]
        rw [hall st'.S hS]
        simp only [hn.1, hf, Bool.or_true, Bool.true_or, Bool.and_self, if_true]
        exact congrArg some (congrArg (Prod.mk AExit.normal) (puts_eff st' _ none { heap := st'.S.heap, next := k } _ _))
      ·cases h
theorem swapF (hfr : FreeOK H) {i j : Nat} {x y : Oper} {st st1 st2 : St} {e : AExit} (hx : ops[i]? = some x) (hy : ops[j]? = some y) (hkx : rdr pol f x = true ∨ wrt pol f x = true) (hlx : isLoad x = true) (hfy : freeCall H.free y = true) (hap : apartA pol f ops x y = true)
  (hfxs : ∀ t ∈ need.fx, t ∉ wrAll pol f ops) (hnb : NB (wrAll pol f ops) st.env) (h1 : evOne P H pol f ops need pl i st = some (.normal, st1)) (h2 : evOne P H pol f ops need pl j st1 = some (e, st2)) :
  e = .normal ∧ ∃ st1', evOne P H pol f ops need pl j st = some (.normal, st1') ∧ evOne P H pol f ops need pl i st1' = some (.normal, st2) := by
 simp only [apartA, Bool.and_eq_true] at hap
 obtain ⟨⟨⟨⟨a1, a2⟩, a3⟩, a4⟩, a5⟩ := hap
 obtain ⟨Cx, so, vx, Sx, d1, d2, d3, _, d5⟩ := one_any hfr hx hkx h1
 obtain ⟨rfl, Cy, vy, k, c1, c2, rfl, hfy'⟩ := one_free hfr hy hfy h2
 rcases d5 with ⟨_, rfl, hfx⟩ | ⟨⟨ch, he⟩, _⟩
 ·refine ⟨rfl, ?_⟩
  -- the reader's own changes to the store leave its next place as it is
  have hnx : Sx.next = st.S.next := by
   have h1' := h1
   unfold evOne at h1'
   simp only [opK_eq] at h1'
   simp only [hx] at h1'
   have := load_next (P := P) (pol := pol) (f := f) (pl := pl) hlx st st.S.next
   have hst : st.nx st.S.next = st := rfl
   rw [hst] at this
   cases hw : wantedA ops x st.env with
   | none => rw [hw] at h1'; cases h1'
   | some w =>
    rw [hw] at h1'
    cases w with
    | false =>
     simp only [Option.some.injEq, Prod.mk.injEq, true_and] at h1'
     have := congrArg St.S h1'
     rw [puts_S] at this
     simp only at this
     rw [← this]
    | true =>
     simp only at h1'
     cases hop : opA P pol f pl x st with
     | none => rw [hop] at h1'; cases h1'
     | some r =>
      obtain ⟨v, sv, rfl⟩ := load_val hlx hop
      rw [hop] at h1' this
      simp only [Option.map_some, OR.nx, Option.some.injEq, OR.val.injEq, true_and] at this
      simp only at h1'
      split at h1'
      ·simp only [Option.some.injEq, Prod.mk.injEq, true_and] at h1'
       have h3 := congrArg St.S h1'
       rw [puts_S] at h3
       simp only at h3
       rw [← h3, this]
       rfl
      ·cases h1'
  have dx_looks : ∀ t ∈ looksA ops y, x.dst ≠ some t := fun t ht e => disj_spec a1 t (by rw [e]; simp) ht
  have cx_looks : ∀ t ∈ looksA ops y, t ∉ Cx := fun t ht hc => disj_spec a4 t (d1 t hc) ht
  have dy_looks : ∀ t ∈ looksA ops x, y.dst ≠ some t := fun t ht e => disj_spec a3 t (by rw [e]; simp) ht
  have cy_looks : ∀ t ∈ looksA ops x, t ∉ Cy := fun t ht hc => disj_spec a5 t (c1 t hc) ht
  have so_wr : ∀ s w, so = some (s, w) → s ∉ wrAll pol f ops := by
   intro s w e hm
   obtain ⟨cs, _, h, _⟩ := d3 s w e
   exact hnb s hm cs h
  -- the call, ahead of the read
  have hy1 := hfy' st (by simp only; exact hnx.symm) (fun t ht => by
   by_cases hs : ∃ w, so = some (t, w)
   ·obtain ⟨w, hs⟩ := hs
    obtain ⟨cs, cs', h, rfl, _⟩ := d3 t w hs
    right
    refine ⟨cs', cs, ?_, h⟩
    have hnd : x.dst ≠ some t := fun e => so_wr t _ hs (mem_wr hx (.inr e))
    have hlt : t < st.env.length := by
     refine Classical.byContradiction fun hn => ?_
     simp [List.getD, hn, AV.undef] at h
    rw [hs]
    unfold eff
    cases hxd : x.dst with
    | none => simp only [setO, getD_set, stripAt_length]; rw [if_pos ⟨trivial, hlt⟩]
    | some d =>
     simp only [setO, getD_set, List.length_set, stripAt_length]
     rw [if_neg (by rintro ⟨e, _⟩; exact hnd (by rw [hxd, e])), if_pos ⟨trivial, hlt⟩]
   ·left
    exact eff_out (cx_looks t ht) (dx_looks t ht) (fun s w e hst => hs ⟨w, by rw [e, hst]⟩))
  refine ⟨_, hy1, ?_⟩
  rw [one_load_next hx hlx, hfx { st with env := eff st.env Cy none y.dst vy } rfl ⟨fun t ht => (List.mem_append.1 ht).elim (fun ht => eff_out (so := none) (cy_looks t ht) (dy_looks t ht) (fun _ _ e => nomatch e)) (fun ht => eff_out (so := none) (fun h => hfxs t ht (mem_wr hy (.inl (c1 t h)))) (fun h => hfxs t ht (mem_wr hy (.inr h))) (fun _ _ e => nomatch e)), fun s cs hs => ?_⟩]
  ·have hcomm : eff (eff st.env Cy none y.dst vy) Cx so x.dst vx = eff (eff st.env Cx so x.dst vx) Cy none y.dst vy :=
    eff_comm (fun t ht hc => cx_looks t (cons_looks (c1 t hc)) ht) (fun d hd hm => dy_looks d (cons_looks (d1 d hm)) hd) (fun d hd hm => dx_looks d (cons_looks (c1 d hm)) hd)
     (fun d hd hd' => disj_spec a2 d (by rw [hd']; simp) (by rw [hd]; simp)) (fun s w e => ⟨fun hm => so_wr s w e (mem_wr hy (.inl (c1 s hm))), fun hd => so_wr s w e (mem_wr hy (.inr hd))⟩)
   simp only [Option.map_some, hcomm]
  ·rw [eff_out (so := none) (fun hm => hnb s (mem_wr hy (.inl (c1 s hm))) cs hs) (fun hd => hnb s (mem_wr hy (.inr hd)) cs hs) (fun _ _ e => nomatch e)]
   exact hs
 ·cases he
end
end Go.Ab
namespace Go.Ab
variable {P : Program} {H : Handler} {pol : Pol} {f : FuncId} {ops : Array Oper} {tab : List (Nat × Nat)} {need : Need} {pl : List Tmp}
theorem one_nb (hfr : FreeOK H) {j : Nat} {o : Oper} {st st1 : St} {e : AExit} (ho : ops[j]? = some o) (hk : rdr pol f o = true ∨ wrt pol f o = true) (hnb : NB (wrAll pol f ops) st.env) (h : evOne P H pol f ops need pl j st = some (e, st1)) :
  NB (wrAll pol f ops) st1.env ∧ (e = .normal ∨ ∃ ch, e = .pan ch) := by
 obtain ⟨C, so, v, S', d1, d2, d3, _, d5⟩ := one_any hfr ho hk h
 have hs : ∀ t, NB (wrAll pol f ops) st.env → t ∈ wrAll pol f ops → ∀ cs, (stripAt st.env C).getD t .undef ≠ .box cs := by
  intro t hnb ht cs
  rw [stripAt_getD]
  split
  ·exact strip_nb _ _
  ·exact hnb t ht cs
 rcases d5 with ⟨rfl, rfl, _⟩ | ⟨⟨ch, rfl⟩, rfl, _⟩
 ·refine ⟨fun t ht cs => ?_, .inl rfl⟩
  have hso : ∀ s w, so = some (s, w) → s ≠ t := by
   rintro s w e rfl
   obtain ⟨cs0, _, h, _⟩ := d3 s w e
   exact hnb s ht cs0 h
  unfold eff
  cases hd : o.dst with
  | none => simp only; rw [setO_getD hso]; exact hs t hnb ht cs
  | some d =>
   simp only
   rw [getD_set]
   split
   ·exact d2 cs
   ·rw [setO_getD hso]; exact hs t hnb ht cs
 ·exact ⟨fun t ht cs => hs t hnb ht cs, .inr ⟨ch, rfl⟩⟩
def Kinds (pol : Pol) (f : FuncId) (ops : Array Oper) : Prop := ∀ (i : Nat) o, ops[i]? = some o → rdr pol f o = true ∨ wrt pol f o = true
theorem evOpsD_cons {i : Nat} {l : List Nat} {st : St} : evOpsD P H pol f ops need pl (i :: l) st = (match evOne P H pol f ops need pl i st with
  | some (.normal, st') => evOpsD P H pol f ops need pl l st'
  | r => r) := rfl
theorem evOne_some {i : Nat} {st : St} {r : AExit × St} (h : evOne P H pol f ops need pl i st = some r) : ∃ o, ops[i]? = some o := by
 unfold evOne at h
 cases ho : ops[i]? with
 | none => rw [ho] at h; cases h
 | some o => exact ⟨o, rfl⟩
def MayPass (H : Handler) (pol : Pol) (f : FuncId) (ops : Array Oper) (need : Need) (x : Oper) (j : Nat) (y : Oper) : Prop :=
 apartA pol f ops x y = true ∧ (rdr pol f x = true ∧ (looksS x = true → isStore y = false ∧ (need.strict.contains j = true ∨ isFix need.fx x = true ∧ need.fix.contains j = true)) ∨ isLoad x = true ∧ freeCall H.free y = true)
theorem move (hfr : FreeOK H) {i : Nat} {x : Oper} (hfxs : ∀ t ∈ need.fx, t ∉ wrAll pol f ops) (hK : Kinds pol f ops) (hx : ops[i]? = some x) : ∀ (p s : List Nat) (st : St) (r : AExit × St), NB (wrAll pol f ops) st.env →
  (∀ j ∈ p, ∀ y, ops[j]? = some y → MayPass H pol f ops need x j y) → (∀ j ∈ p, ∃ y, ops[j]? = some y) →
  evOpsD P H pol f ops need pl (i :: (p ++ s)) st = some r → ∃ r', evOpsD P H pol f ops need pl (p ++ i :: s) st = some r' ∧ EqR pol f ops r r'
 | [], s, st, r, _, _, _, h => ⟨r, h, .inl rfl⟩
 | j :: p, s, st, r, hnb, hp, hin, h => by
  rw [evOpsD_cons] at h
  cases h1 : evOne P H pol f ops need pl i st with
  | none => rw [h1] at h; cases h
  | some r1 =>
   obtain ⟨e1, st1⟩ := r1
   obtain ⟨y, hy⟩ := hin j (by simp)
   obtain ⟨ha, hl⟩ := hp j (by simp) y hy
   have he1 : e1 = .normal := by
    rcases hl with ⟨hr, _⟩ | ⟨hl, _⟩
    ·exact (one_rdr hx hr h1).1
    ·exact one_load hx hl h1
   subst he1
   rw [h1] at h
   simp only [List.cons_append, evOpsD_cons] at h
   cases h2 : evOne P H pol f ops need pl j st1 with
   | none => rw [h2] at h; cases h
   | some r2 =>
    obtain ⟨e2, st2⟩ := r2
    rw [h2] at h
    obtain ⟨st1', g1, g2⟩ : ∃ st1', evOne P H pol f ops need pl j st = some (e2, st1') ∧ ((e2 = .normal ∧ evOne P H pol f ops need pl i st1' = some (.normal, st2)) ∨ ((∃ ch, e2 = .pan ch) ∧ PanSt pol f ops st2 st1')) := by
     rcases hl with ⟨hr, hl⟩ | ⟨hl, hf⟩
     ·exact swap hfr hx hy hr (hK j y hy) ha hl hfxs hnb h1 h2
     ·obtain ⟨rfl, st1', k1, k2⟩ := swapF hfr hx hy (hK i x hx) hl hf ha hfxs hnb h1 h2
      exact ⟨st1', k1, .inl ⟨rfl, k2⟩⟩
    rcases g2 with ⟨rfl, g2⟩ | ⟨⟨ch, rfl⟩, g2⟩
    ·simp only at h
     have hnb' := (one_nb hfr hy (hK j y hy) hnb g1).1
     obtain ⟨r', k1, k2⟩ := move hfr hfxs hK hx p s st1' r hnb' (fun j' hj' => hp j' (by simp [hj'])) (fun j' hj' => hin j' (by simp [hj'])) (by rw [evOpsD_cons, g2]; exact h)
     refine ⟨r', ?_, k2⟩
     rw [List.cons_append, evOpsD_cons, g1]
     exact k1
    ·simp only at h
     cases h
     refine ⟨(.pan ch, st1'), ?_, .inr ⟨rfl, ⟨ch, rfl⟩, g2⟩⟩
     rw [List.cons_append, evOpsD_cons, g1]
def DC (ops : Array Oper) (done : List Nat) : Prop := ∀ y ∈ done, ∀ o, ops[y]? = some o → ∀ e ∈ o.after, Region.binds .any e = true → e.on ∈ done
def HB (ops : Array Oper) (x y : Nat) : Prop := ∃ o e, ops[y]? = some o ∧ e ∈ o.after ∧ Region.binds .any e = true ∧ ∀ done, DC ops done → e.on ∈ done → x ∈ done
def TabOK (ops : Array Oper) (tab : List (Nat × Nat)) : Prop := ∀ x y, hangs tab x y = true → HB ops x y
theorem ancOf_mem : ∀ {tab : List (Nat × Nat)} {j x : Nat}, (ancOf tab j).testBit x = true → ∃ m, (j, m) ∈ tab ∧ m.testBit x = true
 | [], j, x, h => by simp [ancOf] at h
 | (i, m) :: r, j, x, h => by
  unfold ancOf at h
  split at h
  ·rename_i e; subst e; exact ⟨m, by simp, h⟩
  ·obtain ⟨m', h1, h2⟩ := ancOf_mem h
   exact ⟨m', by simp [h1], h2⟩
theorem ancFold {tab : List (Nat × Nat)} (ht : TabOK ops tab) {o : Oper} {y : Nat} (ho : ops[y]? = some o) {x : Nat} : ∀ (l : List Edge) (m : Nat), (∀ e ∈ l, e ∈ o.after) → (m.testBit x = true → HB ops x y) →
  (l.foldl (fun m e => if Region.binds .any e then m ||| (1 <<< e.on) ||| ancOf tab e.on else m) m).testBit x = true → HB ops x y
 | [], m, _, hm, h => hm h
 | e :: l, m, hl, hm, h => by
  refine ancFold ht ho l _ (fun e' he' => hl e' (by simp [he'])) (fun hb => ?_) h
  simp only at hb
  split at hb
  ·rename_i hbind
   rw [Nat.testBit_or, Nat.testBit_or, Bool.or_eq_true, Bool.or_eq_true] at hb
   rcases hb with (hb | hb) | hb
   ·exact hm hb
   ·have : x = e.on := by
     rw [Nat.shiftLeft_eq, Nat.one_mul, Nat.testBit_two_pow] at hb
     exact (of_decide_eq_true hb).symm
    subst this
    exact ⟨o, e, ho, hl e (by simp), hbind, fun _ _ h => h⟩
   ·obtain ⟨o', e', ho', he', hb', hd'⟩ := ht x e.on hb
    exact ⟨o, e, ho, hl e (by simp), hbind, fun done hdc hin => hd' done hdc (hdc _ hin o' ho' e' he' hb')⟩
  ·exact hm hb
theorem ancTab_ok : ∀ (l : List Nat) (tab : List (Nat × Nat)), TabOK ops tab → TabOK ops (ancTab ops l tab)
 | [], _, h => h
 | i :: l, tab, h => by
  refine ancTab_ok l _ ?_
  cases ho : ops[i]? with
  | none => exact h
  | some o =>
   intro x y hxy
   simp only [hangs, ancOf] at hxy
   split at hxy
   ·rename_i e; subst e
    exact ancFold h ho _ 0 (fun e he => by simpa using he) (fun h0 => by simp at h0) hxy
   ·exact h x y hxy
theorem ancTab_nil : TabOK ops [] := fun x y h => by simp [hangs, ancOf] at h
theorem closed_done : ∀ (p : List Nat) {done : List Nat} {s : List Nat}, DC ops done → Closed ops done (p ++ s) → DC ops (p.reverse ++ done) ∧ Closed ops (p.reverse ++ done) s
 | [], done, s, hd, h => ⟨by simpa using hd, by simpa using h⟩
 | i :: p, done, s, hd, h => by
  simp only [List.cons_append, Closed] at h
  obtain ⟨_, ⟨o, ho, hdep⟩, hr⟩ := h
  have hd' : DC ops (i :: done) := by
   intro y hy o' ho' e he hb
   rcases List.mem_cons.1 hy with rfl | hy
   ·rw [ho] at ho'; cases ho'
    exact List.mem_cons_of_mem _ (hdep e he hb)
   ·exact List.mem_cons_of_mem _ (hd y hy o' ho' e he hb)
  have := closed_done p (s := s) hd' hr
  simpa using this
theorem hang_before {done p s : List Nat} {x y : Nat} (ht : TabOK ops tab) (hd : DC ops done) (h : Closed ops done (p ++ y :: s)) (hh : hangs tab x y = true) : x ∈ done ∨ x ∈ p := by
 obtain ⟨h1, h2⟩ := closed_done p hd h
 obtain ⟨_, ⟨o, ho, hdep⟩, _⟩ := h2
 obtain ⟨o', e, ho', he, hb, hin⟩ := ht x y hh
 rw [ho] at ho'; cases ho'
 have : x ∈ p.reverse ++ done := hin _ h1 (hdep e he hb)
 rcases List.mem_append.1 this with h | h
 ·exact .inr (List.mem_reverse.1 h)
 ·exact .inl h
theorem closed_mono : ∀ {l done done' : List Nat}, (∀ i ∈ done, i ∈ done') → (∀ i ∈ l, i ∉ done') → Closed ops done l → Closed ops done' l
 | [], _, _, _, _, _ => trivial
 | i :: l, done, done', h1, h2, h => by
  obtain ⟨_, ⟨o, ho, hdep⟩, hr⟩ := h
  have hnd : i ∉ l := by
   have : ∀ {l done : List Nat}, Closed ops done l → ∀ j ∈ done, j ∉ l := by
    intro l
    induction l with
    | nil => intro _ _ _ _ h; cases h
    | cons a l ih =>
     intro done h j hj hm
     rcases List.mem_cons.1 hm with rfl | hm
     ·exact h.1 hj
     ·exact ih h.2.2 j (List.mem_cons_of_mem _ hj) hm
   exact this hr i (by simp)
  refine ⟨h2 i (by simp), ⟨o, ho, fun e he hb => h1 _ (hdep e he hb)⟩, closed_mono (done := i :: done) (done' := i :: done') (fun j hj => ?_) (fun j hj hm => ?_) hr⟩
  ·rcases List.mem_cons.1 hj with rfl | hj
   ·simp
   ·exact List.mem_cons_of_mem _ (h1 j hj)
  ·rcases List.mem_cons.1 hm with rfl | hm
   ·exact hnd hj
   ·exact h2 j (by simp [hj]) hm
theorem closed_erase {i : Nat} : ∀ {p s done : List Nat}, i ∉ p → Closed ops done (p ++ i :: s) → Closed ops (i :: done) (p ++ s)
 | [], s, done, _, h => h.2.2
 | a :: p, s, done, hn, h => by
  simp only [List.mem_cons, not_or] at hn
  obtain ⟨h1, ⟨o, ho, hdep⟩, hr⟩ := h
  refine ⟨?_, ⟨o, ho, fun e he hb => List.mem_cons_of_mem _ (hdep e he hb)⟩, ?_⟩
  ·intro hm
   rcases List.mem_cons.1 hm with e | hm
   ·exact hn.1 e.symm
   ·exact h1 hm
  ·have ih := closed_erase hn.2 hr
   have hnot := closed_notin ih
   refine closed_mono (fun j hj => ?_) (fun j hj hm => ?_) ih
   ·rcases List.mem_cons.1 hj with rfl | hj
    ·simp
    ·rcases List.mem_cons.1 hj with rfl | hj
     ·simp
     ·simp [hj]
   ·refine hnot j ?_ hj
    rcases List.mem_cons.1 hm with rfl | hm
    ·simp
    ·rcases List.mem_cons.1 hm with rfl | hm
     ·simp
     ·simp [hm]
theorem needs_of {i j : Nat} {x : Oper} (hx : ops[i]? = some x) (hr : rdr pol f x = true) (hl : looksS x = true) {fx : List Nat} (hf : isFix fx x = false) (h1 : hangs tab i j = false) (h2 : hangs tab j i = false) : needS pol f ops fx tab j = true := by
 unfold needS
 rw [List.any_eq_true]
 refine ⟨i, List.mem_range.2 (Array.getElem?_eq_some_iff.1 hx).1, ?_⟩
 rw [hx]
 simp [hr, hl, hf, h1, h2]
theorem needx_of {i j : Nat} {x : Oper} (hx : ops[i]? = some x) {fx : List Nat} (hf : isFix fx x = true) (h1 : hangs tab i j = false) (h2 : hangs tab j i = false) : needX ops fx tab j = true := by
 unfold needX
 rw [List.any_eq_true]
 refine ⟨i, List.mem_range.2 (Array.getElem?_eq_some_iff.1 hx).1, ?_⟩
 rw [hx]
 simp [hf, h1, h2]
theorem any_order (htab : TabOK ops tab) (hneed : ∀ (j : Nat) (o : Oper), ops[j]? = some o → needS pol f ops need.fx tab j = true → need.strict.contains j = true) (hneedx : ∀ (j : Nat) (o : Oper), ops[j]? = some o → needX ops need.fx tab j = true → need.fix.contains j = true) (hfxs : ∀ t ∈ need.fx, t ∉ wrAll pol f ops) (hfr : FreeOK H) (hK : Kinds pol f ops) : ∀ (l l' done : List Nat) (st : St) (r : AExit × St), DC ops done → Closed ops done l → Closed ops done l' → l.Perm l' → stOK H.free pol f ops tab l = true → NB (wrAll pol f ops) st.env →
  evOpsD P H pol f ops need pl l st = some r → ∃ r', evOpsD P H pol f ops need pl l' st = some r' ∧ EqR pol f ops r r'
 | [], l', done, st, r, _, _, _, hperm, _, _, h => by
  have : l' = [] := List.nil_perm.1 hperm
  subst this
  exact ⟨r, h, .inl rfl⟩
 | i :: l, l', done, st, r, hd, hc, hc', hperm, hok, hnb, h => by
  have hm : i ∈ l' := hperm.subset (by simp)
  obtain ⟨p, s, rfl⟩ := List.append_of_mem hm
  have hnd := closed_nodup hc'
  have hip : i ∉ p := by
   intro hp
   have := (List.nodup_append.1 hnd).2.2 i hp i (by simp)
   exact this rfl
  obtain ⟨x, hx, hdep⟩ := hc.2.1
  have hDC : DC ops (i :: done) := by
   intro y hy o' ho' e he hb
   rcases List.mem_cons.1 hy with rfl | hy
   ·rw [hx] at ho'; cases ho'
    exact List.mem_cons_of_mem _ (hdep e he hb)
   ·exact List.mem_cons_of_mem _ (hd y hy o' ho' e he hb)
  have hperm' : l.Perm (p ++ s) := by
   have : (i :: l).Perm (i :: (p ++ s)) := hperm.trans List.perm_middle
   exact List.Perm.cons_inv this
  simp only [stOK, Bool.and_eq_true] at hok
  -- what stands ahead of it in the other order
  have hpair : ∀ j ∈ p, ∀ y, ops[j]? = some y → MayPass H pol f ops need x j y := by
   intro j hj y hy
   have hjl : j ∈ l := by
    have : j ∈ i :: l := hperm.symm.subset (by simp [hj])
    rcases List.mem_cons.1 this with rfl | h
    ·exact absurd hj hip
    ·exact h
   have hndone : i ∉ done := hc.1
   have h1 : hangs tab i j = false := by
    cases hh : hangs tab i j with
    | false => rfl
    | true =>
     exfalso
     obtain ⟨p1, p2, rfl⟩ := List.append_of_mem hj
     rw [List.append_assoc, List.cons_append] at hc'
     rcases hang_before htab hd hc' hh with h | h
     ·exact hndone h
     ·exact hip (by simp [h])
   have h2 : hangs tab j i = false := by
    cases hh : hangs tab j i with
    | false => rfl
    | true =>
     exfalso
     have hcl : Closed ops done ([] ++ i :: l) := hc
     rcases hang_before htab hd hcl hh with h | h
     ·exact closed_notin hc j h (by simp [hjl])
     ·cases h
   have := List.all_eq_true.1 hok.1 j hjl
   rw [h1, Bool.false_or] at this
   unfold pairOK at this
   rw [hx, hy] at this
   simp only [Bool.and_eq_true, Bool.or_eq_true, Bool.not_eq_true'] at this
   obtain ⟨g2, ⟨g1, g3⟩ | ⟨g1, g3⟩⟩ := this
   rotate_left
   ·exact ⟨g2, .inr ⟨g1, g3⟩⟩
   refine ⟨g2, .inl ⟨g1, fun hl => ⟨?_, (Bool.eq_false_or_eq_true (isFix need.fx x)).elim (fun hf => .inr ⟨hf, hneedx j y hy (needx_of hx hf h1 h2)⟩) (fun hf => .inl (hneed j y hy (needs_of hx g1 hl hf h1 h2)))⟩⟩⟩
   rw [hl, Bool.true_and] at g3
   exact g3
  rw [evOpsD_cons] at h
  cases h1 : evOne P H pol f ops need pl i st with
  | none => rw [h1] at h; cases h
  | some r1 =>
   obtain ⟨e1, st1⟩ := r1
   rw [h1] at h
   obtain ⟨hnb1, hex⟩ := one_nb hfr hx (hK i x hx) hnb h1
   rcases hex with rfl | ⟨ch, rfl⟩
   ·simp only at h
    obtain ⟨r1, k1, k2⟩ := any_order htab hneed hneedx hfxs hfr hK l (p ++ s) (i :: done) st1 r hDC hc.2.2 (closed_erase hip hc') hperm' hok.2 hnb1 h
    by_cases hp0 : p = []
    ·subst hp0
     refine ⟨r1, ?_, k2⟩
     rw [List.nil_append, evOpsD_cons, h1]
     exact k1
    ·obtain ⟨r2, m1, m2⟩ := move hfr hfxs hK hx p s st r1 hnb hpair (fun j hj => by
      have := closed_lt hc' j (by simp [hj])
      exact ⟨_, Array.getElem?_eq_getElem this⟩) (by rw [evOpsD_cons, h1]; exact k1)
     exact ⟨r2, m1, k2.trans m2⟩
   ·simp only at h
    cases h
    have hp0 : p = [] := by
     cases p with
     | nil => rfl
     | cons j p =>
      exfalso
      obtain ⟨y, hy⟩ : ∃ y, ops[j]? = some y := by
       obtain ⟨o, ho, _⟩ := hc'.2.1
       exact ⟨o, ho⟩
      rcases (hpair j (by simp) y hy).2 with ⟨hr, _⟩ | ⟨hl, _⟩
      ·have he := (one_rdr hx hr h1).1
       cases he
      ·have he := one_load hx hl h1
       cases he
    subst hp0
    refine ⟨(.pan ch, st1), ?_, .inl rfl⟩
    rw [List.nil_append, evOpsD_cons, h1]
theorem evOpsD_ops : ∀ (l : List Nat) {st : St} {r : AExit × St}, evOpsD P H pol f ops need pl l st = some r → evOps P H pol f ops pl l st = some r
 | [], _, _, h => h
 | i :: l, st, r, h => by
  rw [evOpsD_cons] at h
  unfold evOps
  unfold evOne at h
  simp only [opK_eq] at h ⊢
  cases ho : ops[i]? with
  | none => rw [ho] at h; cases h
  | some o =>
   rw [ho] at h
   simp only at h ⊢
   cases hw : wantedA ops o st.env with
   | none => rw [hw] at h; cases h
   | some w =>
    rw [hw] at h
    cases w with
    | false => exact evOpsD_ops l h
    | true =>
     simp only at h ⊢
     cases hop : opA P pol f pl o st with
     | none => rw [hop] at h; cases h
     | some q =>
      rw [hop] at h
      cases q with
      | val v st1 =>
       simp only at h ⊢
       by_cases hn : notBox v = true
       ·rw [if_pos hn] at h; exact evOpsD_ops l h
       ·rw [if_neg hn] at h; cases h
      | pan ch st1 => exact h
      | call t as st1 =>
       simp only at h ⊢
       cases hc : H.call t as st1.S with
       | none => rw [hc] at h; cases h
       | some eS =>
        obtain ⟨e, S1⟩ := eS
        rw [hc] at h
        cases e with
        | ret v =>
         simp only at h ⊢
         by_cases hn : (notBox v && ((!need.strict.contains i || freeCall H.free o || sameOld st1.S S1) && (!need.fix.contains i || freeCall H.free o || sameFix st1.env need.fx st1.S S1))) = true
         ·rw [if_pos hn] at h; exact evOpsD_ops l h
         ·rw [if_neg hn] at h; cases h
        | pan ch => exact h
theorem closed_perm {l l' : List Nat} (h : Closed ops [] l) (h' : Closed ops [] l') (hl : l.length = ops.size) (hl' : l'.length = ops.size) : l.Perm l' := by
 have one : ∀ {l : List Nat}, Closed ops [] l → l.length = ops.size → l.Perm (List.range ops.size) := by
  intro l h hl
  have hn := closed_nodup h
  have hsub : l ⊆ List.range ops.size := fun j hj => List.mem_range.2 (closed_lt h j hj)
  have hin : ∀ a, a ∈ l ↔ a ∈ List.range ops.size := by
   intro a
   refine ⟨fun h => hsub h, fun h => Classical.byContradiction fun hna => ?_⟩
   have hn' : (a :: l).Nodup := List.nodup_cons.2 ⟨hna, hn⟩
   have := hn'.length_le_of_subset (l₂ := List.range ops.size) (fun b hb => by
    rcases List.mem_cons.1 hb with rfl | hb
    ·exact h
    ·exact hsub hb)
   simp at this; omega
  rw [List.perm_iff_count]
  intro a
  by_cases ha : a ∈ l
  ·rw [hn.count, List.nodup_range.count, if_pos ha, if_pos ((hin a).1 ha)]
  ·rw [hn.count, List.nodup_range.count, if_neg ha, if_neg (fun h => ha ((hin a).2 h))]
 exact (one h hl).trans (one h' hl').symm
theorem wholeB_closed {m : Region.Mode} {l : List Nat} (h : wholeB m ops l = true) : ClosedM m ops [] l ∧ l.length = ops.size := by
 simp only [wholeB, Bool.and_eq_true, beq_iff_eq] at h
 exact ⟨closedB_closed h.1, h.2⟩
theorem lin_whole {m : Region.Mode} {lw : List Nat} (h : wholeB m ops lw = true) (t : Nat) : Closed ops [] (Region.linearise m ops t) ∧ (Region.linearise m ops t).length = ops.size := by
 obtain ⟨h1, h2⟩ := wholeB_closed h
 obtain ⟨h3, h4⟩ := lin_closed h1 h2 ops.size t (Array.replicate ops.size false) [] (by simp) (by intro i hi; simp [hi]) (by simp) List.nodup_nil (by simp)
 exact ⟨closed_any h3, h4⟩
theorem sched_whole {l : List Nat} {ws : List (List Nat)} (hl : wholeB .any ops l = true) (h : (!Region.departs ops || schedB ops ws) = true) (mixed : Bool) (t : Nat) :
  Closed ops [] (Region.schedule mixed ops t) ∧ (Region.schedule mixed ops t).length = ops.size := by
 unfold Region.schedule
 split
 ·exact lin_whole hl t
 ·rename_i hd
  simp only [Bool.or_eq_true, Bool.not_eq_true'] at h hd
  have h := h.resolve_left (fun e => hd (.inr e))
  unfold schedB at h
  split at h
  ·simp only [Bool.and_eq_true] at h
   split
   ·exact lin_whole h.1 _
   ·exact lin_whole h.2 _
  ·cases h
theorem maskD_eq {a b : List AV} (h : PanEnv pol f ops a b) : maskD pol f ops a = maskD pol f ops b := by
 unfold maskD
 apply List.ext_getElem?
 intro t
 simp only [List.getElem?_mapIdx]
 by_cases hlt : t < a.length
 ·have hlt' : t < b.length := by rw [← h.len]; exact hlt
  rw [List.getElem?_eq_getElem hlt, List.getElem?_eq_getElem hlt']
  simp only [Option.map_some, Option.some.injEq]
  have ea : a.getD t .undef = a[t] := by simp [List.getD, hlt]
  have eb : b.getD t .undef = b[t] := by simp [List.getD, hlt']
  by_cases hd : ops.toList.any (fun o => o.dst == some t) = true
  ·rw [if_pos hd, if_pos hd]
  ·rw [if_neg hd, if_neg hd]
   have hd' : ∀ o ∈ ops.toList, o.dst ≠ some t := by
    intro o ho e
    exact hd (List.any_eq_true.2 ⟨o, ho, by simp [e]⟩)
   obtain ⟨h1, h2⟩ := h.all t hd'
   rw [ea, eb] at h1 h2
   by_cases hc : ops.toList.any (fun o => (consumed pol f o).contains t) = true
   ·rw [if_pos hc, if_pos hc, h1]
   ·rw [if_neg hc, if_neg hc]
    exact h2 (fun o ho hm => hc (List.any_eq_true.2 ⟨o, ho, by simpa using hm⟩))
 ·have hlt' : ¬ t < b.length := by rw [← h.len]; exact hlt
  rw [List.getElem?_eq_none (by omega), List.getElem?_eq_none (by omega)]
theorem maskD_rel {C : Ctx} {d : Nat} {env : List AV} {tmps : Array Value} (hE : EnvRel C d env tmps) : EnvRel C d (maskD pol f ops env) tmps := by
 refine ⟨by simp [maskD, hE.1], fun t v hv => ?_⟩
 simp only [maskD, List.getElem?_mapIdx] at hv
 cases he : env[t]? with
 | none => rw [he] at hv; cases hv
 | some u =>
  rw [he] at hv
  simp only [Option.map_some, Option.some.injEq] at hv
  obtain ⟨c, hc, hr⟩ := hE.2 t u he
  refine ⟨c, hc, ?_⟩
  subst hv
  split
  ·simp [VRel]
  ·split
   ·exact (hr.strip _).1
   ·exact hr
theorem draw_ok (hF : Fine P) (hH : HSound P H) : DrawOK P H pol := by
 intro f id ops st x st' h C d b tmps defers cm hfn hR hl k
 unfold evDraw at h
 split at h
 ·rename_i l ws hor
  split at h
  ·rename_i hchk
   rw [Bool.and_eq_true] at hchk
   obtain ⟨hall, hnbx⟩ := hchk
   have hall' : (drawOK H.free pol f ops l ws && (List.range ops.size).all (fun j => (!needS pol f ops (pol.needs f id).fx (ancTab ops l []) j || (pol.needs f id).strict.contains j) && (!needX ops (pol.needs f id).fx (ancTab ops l []) j || (pol.needs f id).fix.contains j)) && (pol.needs f id).fx.all (fun t => !(ops.toList.flatMap fun o => o.dst.toList ++ consumed pol f o).contains t) && (ops.toList.flatMap fun o => o.dst.toList ++ consumed pol f o).all (fun t => (pol.wr f id).contains t)) = true := hall
   rw [Bool.and_eq_true, Bool.and_eq_true, Bool.and_eq_true] at hall'
   obtain ⟨⟨⟨hdr, hnd⟩, hfxa⟩, hwr⟩ := hall'
   have hfxs : ∀ t ∈ (pol.needs f id).fx, t ∉ wrAll pol f ops := by
    intro t ht hm
    have h1 := List.all_eq_true.1 hfxa t ht
    have : (ops.toList.flatMap fun o => o.dst.toList ++ consumed pol f o).contains t = true := by simpa [wrAll] using hm
    rw [this] at h1
    cases h1
   have hneeds : ∀ (j : Nat) (o : Oper), ops[j]? = some o → needS pol f ops (pol.needs f id).fx (ancTab ops l []) j = true → (pol.needs f id).strict.contains j = true := by
    intro j o ho hj
    have hlt : j < ops.size := by
     rcases Nat.lt_or_ge j ops.size with h | h
     ·exact h
     ·rw [Array.getElem?_eq_none h] at ho; cases ho
    have := (Bool.and_eq_true _ _ ▸ List.all_eq_true.1 hnd j (List.mem_range.2 hlt)).1
    rw [hj] at this
    simpa using this
   have hneedx : ∀ (j : Nat) (o : Oper), ops[j]? = some o → needX ops (pol.needs f id).fx (ancTab ops l []) j = true → (pol.needs f id).fix.contains j = true := by
    intro j o ho hj
    have hlt : j < ops.size := by
     rcases Nat.lt_or_ge j ops.size with h | h
     ·exact h
     ·rw [Array.getElem?_eq_none h] at ho; cases ho
    have := (Bool.and_eq_true _ _ ▸ List.all_eq_true.1 hnd j (List.mem_range.2 hlt)).2
    rw [hj] at this
    simpa using this
   have hdr' : (wholeB .any ops l && (!Region.departs ops || schedB ops ws) && ops.toList.all (fun o => rdr pol f o || wrt pol f o) && stOK H.free pol f ops (ancTab ops l []) l) = true := hdr
   rw [Bool.and_eq_true, Bool.and_eq_true, Bool.and_eq_true] at hdr'
   obtain ⟨⟨⟨hwhole, hsch⟩, hkinds⟩, hstat⟩ := hdr'
   obtain ⟨hc, hlen⟩ := wholeB_closed hwhole
   have hfr : FreeOK H := fun {g args S e S'} => hH.free
   have hK : Kinds pol f ops := by
    intro i o ho
    have := List.all_eq_true.1 hkinds o (List.mem_of_getElem? (by rw [Array.getElem?_toList]; exact ho))
    simpa using this
   have hnb : NB (wrAll pol f ops) st.env := by
    intro t ht cs e
    have h1 := List.all_eq_true.1 hwr t ht
    have := List.all_eq_true.1 hnbx t (by simpa using h1)
    rw [e] at this
    cases this
   -- the region's order is drawn
   have hst : step P (b.mach tmps defers (.code (.region id ops true) :: k) cm C.w) =
     .next (b.mach tmps defers (.inRegion ops (Region.schedule (P.follows .mixedOrders) ops (C.w.tape C.w.drawn (.order b.fn id))) :: k) cm C.drew.w) :=
    step_lone_go (by simp [stepG, stepG.exec, FB.at, choose, Sem.run, Question.forced, Question.cut]; rfl)
   obtain ⟨hc', hlen'⟩ := sched_whole hwhole hsch (P.follows .mixedOrders) (C.w.tape C.w.drawn (.order b.fn id))
   generalize Region.schedule (P.follows .mixedOrders) ops (C.w.tape C.w.drawn (.order b.fn id)) = l' at hst hc' hlen'
   have hperm := closed_perm hc hc' hlen hlen'
   have hR' : FrRel C.drew d b st tmps defers cm := ⟨hR.env.drew, hR.heap.drew, hR.defs.mono (Ext.drew (fun _ => False) C), hR.par.mono (Ext.drew (fun _ => False) C)⟩
   have hx : Ext (Deep d) C C.drew := Ext.drew _ C
   have hlp : LpIn st.env (ops.toList.filterMap isPlaceOp) := hl.mono (by simp)
   cases hr : evOpsD P H pol f ops (pol.needs f id) (ops.toList.filterMap isPlaceOp) l st with
   | none => rw [hr] at h; cases h
   | some r =>
    rw [hr] at h
    obtain ⟨r', k1, k2⟩ := any_order (ancTab_ok l [] ancTab_nil) hneeds hneedx hfxs hfr hK l l' [] st r (by intro y hy; cases hy) hc hc' hperm hstat hnb hr
    obtain ⟨x', st2⟩ := r'
    have goes := (ops_ok hF hH l' (evOpsD_ops l' k1) hR' hlp (d := d) (k := k)).trans hx (.one hst)
    rcases k2 with rfl | ⟨he, ⟨ch, hch⟩, hpan⟩
    ·split at h
     ·rename_i ch st3 heq
      cases heq
      cases h
      obtain ⟨C', t', ds', cm', g1, g2, g3, g4⟩ := goes
      exact ⟨C', t', ds', cm', g1, ⟨maskD_rel g2.env, g2.heap, g2.defs, g2.par⟩, .inl ⟨_, rfl⟩, g4⟩
     ·cases h
      exact goes
    ·obtain ⟨xe, st1⟩ := r
     simp only at he hch hpan
     subst hch
     subst he
     cases h
     obtain ⟨C', t', ds', cm', g1, g2, g3, g4⟩ := goes
     refine ⟨C', t', ds', cm', g1, ⟨?_, ?_, ?_, ?_⟩, .inl ⟨_, rfl⟩, g4⟩
     ·show EnvRel C' d (maskD pol f ops st1.env) t'
      rw [maskD_eq hpan.env]
      exact maskD_rel g2.env
     ·show HeapRel C' st1.S
      rw [hpan.S]; exact g2.heap
     ·show DefRel C' st1.defs ds'
      rw [hpan.defs]; exact g2.defs
     ·show ParRel C' b st1.par cm'
      rw [hpan.par]; exact g2.par
  ·cases h
 ·cases h
theorem handler_sound (hF : Fine P) (pol : Pol) (n : Nat) : HSound P (handler P pol n) := handler_ok hF (fun _ hH => draw_ok hF hH) n
end Go.Ab
namespace Go.Ab
open Go.RowKit
variable {P : Program}
def ctx0 (W : World) : Ctx :=
 { w := W, L := fun b _ => if b < W.heap.size then froz else [], φ := fun _ => 0, ψ := fun _ => 0, σ := fun _ => 0, κ := fun _ => 0, n := 0, β := fun _ _ => 0, base := W.heap.size }
theorem ctx0_heap (W : World) : HeapRel (ctx0 W) { heap := [], next := 0 } where
 n := rfl
 nodup := List.nodup_nil
 obj := fun _ _ h => by cases h
 fresh := fun b o h => if_neg (Nat.not_lt.2 h)
 base := ⟨Nat.le_refl _, fun b o h => if_pos h⟩
theorem ctx0_below {W : World} {X : List Nat → Prop} {C' : Ctx} (h : Ext X (ctx0 W) C') : Below W.heap.size W C'.w := by
 refine ⟨h.old.os, h.old.tape, h.old.output, h.old.size, fun k hk => ?_⟩
 have hL : ∀ o, (ctx0 W).L k o = froz := fun o => if_pos hk
 have hsame : ∀ o, Same W C'.w k o := fun o => (h.fr k o (hL o)).2
 obtain ⟨x, hx⟩ : ∃ x, W.heap[k]? = some x := ⟨_, Array.getElem?_eq_getElem hk⟩
 rw [hx]
 by_cases hc : isCellsO x = true
 ·cases x <;> simp [isCellsO] at hc
  rename_i cs e fr
  obtain ⟨cs1, h1⟩ := h.old.fr k cs e fr hk hx
  obtain ⟨cs2, fr2, h2, h3, _⟩ := h.shape k cs e fr hx
  rw [h1] at h2
  cases h2
  rw [h1]
  congr 2
  apply Array.ext h3
  intro i hi1 hi2
  have := (hsame i).1
  simp only [World.cell?, h1, hx] at this
  simpa [hi1, hi2] using this
 ·exact (hsame 0).2 x hx (by simpa using hc)
theorem calls_of_ev (hF : Fine P) (pol : Pol) {n : Nat} {f : FuncId} {args : List AV} {v : AV} {p' : AMode} {S' : Sto} (h : runFn P (handler P pol n) n pol f .none args { heap := [], next := 0 } = some (.ret v, p', S'))
  (W : World) {cargs : List Value} (ha : ListRel (ctx0 W) args none 0 cargs) :
  Calls P f cargs.toArray W fun e W' => ∃ C' cv, e = .returned cv ∧ VRel C' v (some [3]) cv ∧ W' = C'.w ∧ Below W.heap.size W W' := by
 intro cs
 have hH := handler_sound hF pol n
 have := runFn_ok hF hH (draw_ok hF hH) h (C := ctx0 W) (d := 0) (ctx0_heap W) (ListRel.any _ _ _ _ _ ha) (b := { fn := f, kind := .normal, rnd := none, K := fun _ => cs, head := by intro h; cases h }) rfl rfl (cm := .returning) ⟨rfl, rfl⟩
 obtain ⟨C', fr, cm, hst, h1, h2, h3, h4, h5, h6, h7, h8⟩ := this.2.out
 obtain ⟨g1, g2, fn', cv, g3, g4, g5⟩ := h8
 exact ⟨.returned cv, C'.w, fr, ⟨C', cv, rfl, g5, rfl, ctx0_below h7⟩, hst, h3, g1, h1, h2, fn', g3, g4⟩
section
variable {H : Type} (enc : TypeId × Value → H) (P) (W : World)
def Reads (t : TypeId) (X : Type) (g : X → List AV) (p : X → Prop) : Prop :=
 ∀ (fuel : Nat) (cs : List Value) (x : DataW H × List MemPlace), DataW.trod enc P W 0 (fun _ => true) true fuel t cs = some x →
  ∃ y, p y ∧ ListRel (ctx0 W) (g y) none 0 cs ∧ ∀ c ∈ cs, flat c
variable {P} {W} {enc}
theorem one_rel {C : Ctx} {v : AV} {c : Value} (hp : isPl v = false) (h : VRel C v none c) : ListRel C [v] none 0 [c] := by
 simp only [ListRel, sub, Option.map_none]
 exact ⟨c, [], rfl, hp, h, rfl⟩
theorem reads_bool {t : TypeId} (ht : P.underlying t = some .bool) : Reads P enc W t Bool (fun b => [.bool b]) (fun _ => True) := by
 intro fuel cs x h
 obtain ⟨b, rfl, _⟩ := DataW.trod_bool ht h
 exact ⟨b, trivial, one_rel rfl (by simp only [VRel]), by simp [flat]⟩
theorem reads_int {t : TypeId} {k : IntKind} (ht : P.underlying t = some (.int k)) : Reads P enc W t Int (fun n => [.int k n]) (fun n => (Lit.int k n).wf = true) := by
 intro fuel cs x h
 obtain ⟨n, rfl, _, hw⟩ := DataW.trod_int ht h
 exact ⟨n, hw, one_rel rfl (by simp only [VRel]), by simp [flat]⟩
theorem reads_string {t : TypeId} (ht : P.underlying t = some .string) : Reads P enc W t (List UInt8) (fun s => [.str s]) (fun s => s.length ≤ maxLen) := by
 intro fuel cs x h
 obtain ⟨s, rfl, _, hw⟩ := DataW.trod_string ht h
 exact ⟨s.data.toList, by simpa using hw, one_rel rfl (by simp only [VRel]; exact ⟨s, rfl, rfl⟩), by simp [flat]⟩
theorem cell_old {a : Addr} {v : Value} (h : W.cell? a = some v) : a.spot = none ∧ a.block < W.heap.size := by
 unfold World.cell? at h
 cases hb : W.heap[a.block]? with
 | none => rw [hb] at h; cases h
 | some o =>
  rw [hb] at h
  have hlt := (Array.getElem?_eq_some_iff.1 hb).1
  cases o <;> first | (cases h; done) | skip
  simp only at h
  split at h
  ·cases h
  ·rename_i hs
   exact ⟨by simpa using hs, hlt⟩
theorem cells_frozen {vs : List AV} : ∀ {cs : List Value} {i b o : Nat}, ListRel (ctx0 W) vs none i cs → (∀ c ∈ cs, flat c) → (∀ (j : Nat) c, cs[j]? = some c → W.cell? ⟨b, o + j, none⟩ = some c) → CellsRel (ctx0 W) vs b o := by
 intro cs i b o h hf hc
 refine cells_of (C := ctx0 W) h hf (fun j c hj => ⟨hc j c hj, ?_⟩)
 exact if_pos (cell_old (hc j c hj)).2
theorem cells?_get {a : Addr} {n : Nat} {cs : List Value} (h : W.cells? 0 a n = some cs) : cs.length = n ∧ ∀ (j : Nat) c, cs[j]? = some c → W.cell? (a.add j) = some c := by
 unfold World.cells? at h
 rw [if_pos (Nat.zero_le _)] at h
 refine ⟨by simpa using mapM_some_length h, fun j c hj => ?_⟩
 have hlt := (List.getElem?_eq_some_iff.1 hj).1
 have hl : cs.length = n := by simpa using mapM_some_length h
 have := mapM_some_get h j j (by rw [List.getElem?_eq_getElem (by simpa using (by omega : j < n)), List.getElem_range])
 rw [hj] at this
 exact this
theorem add_add' (a : Addr) (h : a.spot = none) (i : Nat) : a.add i = ⟨a.block, a.off + i, none⟩ := by
 obtain ⟨b, o, s⟩ := a
 have h : s = none := h
 subst h
 unfold Addr.add
 split <;> simp_all
theorem rows_frozen {X : Type} {g : X → List AV} {es : Nat} {b : Nat} : ∀ {xs : List X} {o : Nat}, (∀ (i : Nat) x, xs[i]? = some x → ∃ cs, (g x).length = es ∧ ListRel (ctx0 W) (g x) none 0 cs ∧ (∀ c ∈ cs, flat c) ∧ ∀ (j : Nat) c, cs[j]? = some c → W.cell? ⟨b, o + i * es + j, none⟩ = some c) →
  RowsRel (ctx0 W) (xs.map g) b o es
 | [], _, _ => by simp [RowsRel]
 | x :: xs, o, h => by
  simp only [List.map_cons, RowsRel]
  obtain ⟨cs, h1, h2, h3, h4⟩ := h 0 x rfl
  refine ⟨h1, cells_frozen h2 h3 (fun j c hj => by simpa using h4 j c hj), rows_frozen (fun i y hy => ?_)⟩
  obtain ⟨cs', k1, k2, k3, k4⟩ := h (i + 1) y (by simpa using hy)
  refine ⟨cs', k1, k2, k3, fun j c hj => ?_⟩
  have := k4 j c hj
  rwa [show o + (i + 1) * es + j = o + es + i * es + j by rw [Nat.add_mul]; omega] at this
def slA {X : Type} (es : Nat) (g : X → List AV) : Option (List X) → AV
 | none => .nilsl
 | some xs => .sl false es (xs.map g)
theorem exists_list {X : Type} {n : Nat} {R : Nat → X → Prop} (h : ∀ i, i < n → ∃ x, R i x) : ∃ xs : List X, xs.length = n ∧ ∀ (i : Nat) x, xs[i]? = some x → R i x := by
 induction n with
 | zero => exact ⟨[], rfl, by simp⟩
 | succ n ih =>
  obtain ⟨xs, h1, h2⟩ := ih (fun i hi => h i (by omega))
  obtain ⟨x, hx⟩ := h n (by omega)
  refine ⟨xs ++ [x], by simp [h1], fun i y hy => ?_⟩
  by_cases hi : i < n
  ·rw [List.getElem?_append_left (by omega)] at hy; exact h2 i y hy
  ·have hi' := (List.getElem?_eq_some_iff.1 hy).1
   simp at hi'
   have : i = n := by omega
   subst this
   rw [List.getElem?_append_right (by omega), h1] at hy
   simp at hy
   subst hy; exact hx
theorem reads_slice {t e : TypeId} {X : Type} {g : X → List AV} {p : X → Prop} (ht : P.underlying t = some (.slice e)) (hes : 0 < P.cellsOf e) (hr : Reads P enc W e X g p) :
  Reads P enc W t (Option (List X)) (fun o => [slA (P.cellsOf e) g o]) (fun o => ∀ xs, o = some xs → xs.length ≤ maxLen ∧ ∀ x ∈ xs, p x) := by
 intro fuel cs x h
 rcases DataW.trod_slice ht h with ⟨rfl, _⟩ | ⟨a, len, cap, elems, rest, n, _, rfl, _, _, hl, hm, hlen, hel, hspare, _⟩
 ·exact ⟨none, by simp, one_rel rfl (by simp only [slA, VRel]), by simp [flat]⟩
 ·-- each element
  have each : ∀ i, i < len → ∃ y, p y ∧ ∃ cs', W.cells? 0 (a.add (i * P.cellsOf e)) (P.cellsOf e) = some cs' ∧ ListRel (ctx0 W) (g y) none 0 cs' ∧ ∀ c ∈ cs', flat c := by
   intro i hi
   have := hel i hi
   rw [List.getElem?_eq_getElem (by omega)] at this
   obtain ⟨cs', h1, h2⟩ := Option.bind_eq_some_iff.1 this
   obtain ⟨y, hy, k1, k2⟩ := hr _ _ _ h2
   exact ⟨y, hy, cs', h1, k1, k2⟩
  obtain ⟨xs, hxl, hxs⟩ := exists_list each
  refine ⟨some xs, ?_, one_rel rfl ?_, by simp [flat]⟩
  ·intro xs' e; cases e
   refine ⟨by omega, fun x hx => ?_⟩
   obtain ⟨i, hi⟩ := List.getElem?_of_mem hx
   exact (hxs i x hi).1
  ·simp only [slA, VRel]
   obtain ⟨b, o, s⟩ := a
   by_cases h0 : cap = 0
   ·have : xs = [] := List.eq_nil_of_length_eq_zero (by omega)
    subst this
    have hl0 : len = 0 := by omega
    subst hl0
    exact ⟨b, o, cap, s, by simp, by simp, hes, by simp [RowsRel], by simp, .inr h0⟩
   ·-- room, or an element, shows where it lies
    by_cases hn : len = 0
    ·have hxn : xs = [] := List.eq_nil_of_length_eq_zero (by omega)
     subst hxn
     subst hn
     have hsp : s = none := by
      have := (hspare rfl).2 0 (by omega)
      simp only [Nat.zero_add] at this
      rw [List.getElem?_eq_getElem (by rw [(hspare rfl).1]; omega)] at this
      obtain ⟨cs', h1, _⟩ := Option.bind_eq_some_iff.1 this
      obtain ⟨hcl, hcg⟩ := cells?_get h1
      have h2 := hcg 0 _ (List.getElem?_eq_getElem (by omega))
      have h3 := (cell_old h2).1
      simpa [Addr.add] using h3
     subst hsp
     exact ⟨b, o, cap, none, by simp, by simp, hes, by simp [RowsRel], by simp, .inl rfl⟩
    ·have hsp : s = none := by
      obtain ⟨y, _, cs', h1, _⟩ := each 0 (by omega)
      obtain ⟨hcl, hcg⟩ := cells?_get h1
      have h2 := hcg 0 _ (List.getElem?_eq_getElem (by omega))
      have h3 := (cell_old h2).1
      simpa [Addr.add] using h3
     subst hsp
     refine ⟨b, o, cap, none, by simp [hxl], by simp [hxl]; exact hl, hes, rows_frozen (fun i x hx => ?_), by simp, .inl rfl⟩
     obtain ⟨_, cs', h1, h2, h3⟩ := hxs i x hx
     obtain ⟨hcl, hcg⟩ := cells?_get h1
     refine ⟨cs', by rw [← h2.length, hcl], h2, h3, fun j c hj => ?_⟩
     have := hcg j c hj
     rw [add_add' ⟨b, o, none⟩ rfl, add_add' ⟨b, o + i * P.cellsOf e, none⟩ rfl] at this
     exact this
def ReadsFields (P : Program) (enc : TypeId × Value → H) (W : World) (fs : List Field) (off : Nat) (X : Type) (g : X → List AV) (p : X → Prop) (size : Nat) : Prop :=
 ∀ (n : Nat) (cs : List Value) (_xs : List (DataW H × List MemPlace)), cs.length = size → (∀ (i : Nat) (f : Field), fs[i]? = some f → ∃ x, DataW.trod enc P W 0 (fun _ => true) true n f.type ((cs.drop f.offset).take (P.cellsOf f.type)) = some x) →
  ∃ y, p y ∧ ListRel (ctx0 W) (g y) none 0 (cs.drop off) ∧ ∀ c ∈ cs.drop off, flat c
theorem fields_nil {size : Nat} : ReadsFields P enc W [] size Unit (fun _ => []) (fun _ => True) size := by
 intro n cs xs hl _
 rw [← hl, List.drop_length]
 exact ⟨(), trivial, by simp [ListRel], by simp⟩
theorem fields_cons {f : Field} {fs : List Field} {off size : Nat} {X Y : Type} {g : X → List AV} {g' : Y → List AV} {p : X → Prop} {p' : Y → Prop} (hr : Reads P enc W f.type X g p) (ho : f.offset = off)
  (_hs : off + P.cellsOf f.type ≤ size) (hrs : ReadsFields P enc W fs (off + P.cellsOf f.type) Y g' p' size) : ReadsFields P enc W (f :: fs) off (X × Y) (fun z => g z.1 ++ g' z.2) (fun z => p z.1 ∧ p' z.2) size := by
 intro n cs xs hl h
 obtain ⟨x, hx⟩ := h 0 f rfl
 obtain ⟨y, h1, h2, h3⟩ := hr _ _ _ hx
 obtain ⟨z, k1, k2, k3⟩ := hrs n cs xs hl (fun i f' hf => h (i + 1) f' (by simpa using hf))
 have hsplit : cs.drop off = (cs.drop off).take (P.cellsOf f.type) ++ cs.drop (off + P.cellsOf f.type) := by
  rw [← List.drop_drop, List.take_append_drop]
 rw [ho] at h2 h3
 refine ⟨(y, z), ⟨h1, k1⟩, ?_, ?_⟩
 ·rw [hsplit]
  refine ListRel.append h2 ?_
  exact ListRel.any _ none 0 _ _ k2
 ·rw [hsplit]
  intro c hc
  rcases List.mem_append.1 hc with h | h
  ·exact h3 c h
  ·exact k3 c h
theorem reads_struct {t : TypeId} {fs : Array Field} {X : Type} {g : X → List AV} {p : X → Prop} (ht : P.underlying t = some (.struct fs)) (h : ReadsFields P enc W fs.toList 0 X g p (P.cellsOf t)) : Reads P enc W t X g p := by
 intro fuel cs x hx
 obtain ⟨xs, n, _, _, hl, hxl, hf⟩ := DataW.trod_struct ht hx
 obtain ⟨y, h1, h2, h3⟩ := h n cs xs hl (fun i f hi => by
  have hi' : fs[i]? = some f := by simpa using hi
  rw [hf i f hi']
  have := (Array.getElem?_eq_some_iff.1 hi').1
  exact ⟨_, List.getElem?_eq_getElem (by omega)⟩)
 exact ⟨y, h1, by simpa using h2, by simpa using h3⟩
theorem arg_cell {t : TypeId} {v : Value} {d : DataW H} {ps : List MemPlace} {X : Type} {g : X → List AV} {p : X → Prop} (hr : Reads P enc W t X g p) (hv : flat v) (h : DataW.Trod enc P W 0 (fun _ => true) true t v d ps) :
  ∃ y, p y ∧ ListRel (ctx0 W) (g y) none 0 [v] := by
 obtain ⟨fuel, hf⟩ := h
 have hc : v.cells.toList = [v] := by rw [flat_cells hv]
 rw [hc] at hf
 obtain ⟨y, h1, h2, _⟩ := hr _ _ _ hf
 exact ⟨y, h1, h2⟩
theorem arg_agg {t : TypeId} {cs : Array Value} {d : DataW H} {ps : List MemPlace} {X : Type} {g : X → List AV} {p : X → Prop} (hr : Reads P enc W t X g p) (h : DataW.Trod enc P W 0 (fun _ => true) true t (.agg cs) d ps) :
  ∃ y, p y ∧ ListRel (ctx0 W) [.agg (g y)] none 0 [.agg cs] := by
 obtain ⟨fuel, hf⟩ := h
 obtain ⟨y, h1, h2, h3⟩ := hr _ _ _ hf
 refine ⟨y, h1, one_rel rfl ?_⟩
 simp only [VRel]
 exact ⟨cs.toList, by simp, h3, h2⟩
end
end Go.Ab
namespace Go.Ab
open Go.RowKit Go.ChangeShapes
section
variable {H : Type} {enc : TypeId × Value → H} {P : Program}
theorem trodAll_back (hl : laidOutB P = true) {W W' : World} (hb : Below W.heap.size W W') : ∀ {ts : List TypeId} {vs : List Value} {ds : List (DataW H)} {ps : List MemPlace},
  (∀ t ∈ ts, P.readableRec t = true ∧ t < P.types.size) → DataW.TrodAll enc P W 0 (fun _ => true) true ts vs ds ps → DataW.TrodAll enc P W' 0 (fun b => decide (b < W.heap.size)) true ts vs ds ps
 | [], vs, ds, ps, _, h => by
  obtain ⟨rfl, rfl, rfl⟩ := trodAll_nil h
  exact trodAll_mk0
 | t :: ts, vs, ds, ps, ht, h => by
  obtain ⟨v, vs', d, ds', p, q, rfl, rfl, rfl, h1, h2⟩ := trodAll_cons h
  obtain ⟨r1, r2⟩ := ht t (by simp)
  have hlt : ∀ x ∈ p, x.block < W.heap.size := by obtain ⟨m, hm⟩ := h1; exact DataW.trod_lt m _ _ _ hm
  exact trodAll_cons_mk (Below.trod hl r1 r2 h1 hb hlt) (trodAll_back hl hb (fun t' ht' => ht t' (by simp [ht'])) h2)
def trueSpec (s : ChangeSpec) (k : Nat) : Prop := s.vars = [] ∧ ∀ (H : Type) (ds : List (DataW H)), ds.length = k → (s.fn H ds).results = [.lit (.bool true)] ∧ (s.fn H ds).args = ds ∧ (s.fn H ds).vars = []
theorem lifted_of_ev {C : Checked} {os : Os} (started : os.Started) {f : FuncId} {fn : Func} {s : ChangeSpec} {conds : List PathCond} {rt : TypeId} (own : ownKnob C.prog.godebug = none) (noInit : C.prog.inits.idxOf? f = none) (hfn : C.prog.funcs[f]? = some fn)
  (witness : ∃ (w : World) (tape : Tape) (i : Input), w.os = os ∧ (w.forCall tape i).Shaped C.prog ∧ i.vars = [] ∧ Input.okWide C.prog (w.forCall tape i) .any w.heap.size f i ∧
   s.pre6 enc C.prog fn conds false (w.forCall tape i).memory i.args ∧ (Assume.holds {}) C.prog (lone (Frame.enter C.prog f i.args .normal) [] (w.forCall tape i)))
  (hF : Fine C.prog) (laidOut : laidOutB C.prog = true) (readable : ∀ t ∈ fn.params.toList, C.prog.readableRec t = true ∧ t < C.prog.types.size) (hrt : fn.resultTypes = #[rt]) (hbool : C.prog.underlying rt = some .bool)
  (hspec : trueSpec s fn.params.size) (pol : Pol)
  (hev : ∀ (W : World) (args : List Value) (ds : List (DataW H)) (ps : List MemPlace), (∃ base, ∀ (j : Nat) t v, fn.params[j]? = some t → args[j]? = some v → Value.okWide C.prog W .any base t v) →
   DataW.TrodAll enc C.prog W 0 (fun _ => true) true fn.params.toList args ds ps →
   ∃ avs, ListRel (ctx0 W) avs none 0 args ∧ ∃ n p' S', runFn C.prog (handler C.prog pol n) n pol f .none avs { heap := [], next := 0 } = some (.ret (.bool true), p', S')) :
  ReturnsInHanded {} C os f .any (s.pre6 enc C.prog fn conds false) (s.post enc C.prog fn false true false false) := by
 refine returnsInHanded_of_change_sized (C := C) own started noInit hfn witness ?_
 intro W base args ds gs before hval hW hcnd hsz _
 have hW' := hW
 obtain ⟨p, q, hA, hV, rfl, hfz, hnd⟩ := hW
 rw [hspec.1] at hV
 obtain ⟨rfl, rfl⟩ := trodVars_none hV
 obtain ⟨avs, hrel, n, p', S', hrun⟩ := hev W args.toList ds p ⟨base, fun j t v ht hv => hval j t v ht (by simpa using hv)⟩ hA
 have hlen : ∀ {ts : List TypeId} {vs : List Value} {ds : List (DataW H)} {ps : List MemPlace}, DataW.TrodAll enc C.prog W 0 (fun _ => true) true ts vs ds ps → ds.length = ts.length := by
  intro ts
  induction ts with
  | nil => intro vs ds ps h; obtain ⟨_, rfl, _⟩ := trodAll_nil h; rfl
  | cons t ts ih =>
   intro vs ds ps h
   obtain ⟨v, vs', d, ds', p, q, rfl, rfl, rfl, h1, h2⟩ := trodAll_cons h
   simp [ih h2]
 obtain ⟨sp1, sp2, sp3⟩ := hspec.2 H (ds ++ []) (by simp [hlen hA])
 have hc := calls_of_ev hF pol hrun W hrel
 rw [Array.toArray_toList] at hc
 refine hc.mono fun e W' ⟨C', cv, he, hv, hw, hb⟩ => ?_
 have hcv : cv = .bool true := by simpa only [VRel] using hv
 subst hcv
 refine ⟨_, he, ds, [], _, [], p, [], hW', ?_, ?_, ?_, hb.frame _, fun h => by cases h⟩
 ·rw [sp1, hrt]
  exact trodAll_mk1 (shut_bool hbool _)
 ·rw [sp2, List.append_nil]
  exact trodAll_back laidOut hb readable hA
 ·rw [sp3, hspec.1]; rfl
end
end Go.Ab
namespace Go.Ab
variable {P : Program} {H : Handler} {pol : Pol} {f : FuncId} {ops : Array Oper} {pl : List Tmp} {N : Nat} {round : Option Nat}
def oB {α β : Type} (x : Option α) (k : α → Option β) : Option β := match x with | none => none | some a => k a
@[congr] theorem oB_congr {α β : Type} {x x' : Option α} {k : α → Option β} (h : x = x') : oB x k = oB x' k := by rw [h]
theorem oB_some {α β : Type} (a : α) (k : α → Option β) : oB (some a) k = k a := (rfl)
theorem oB_none {α β : Type} (k : α → Option β) : oB none k = none := (rfl)
def bindN (r : Option (AExit × St)) (k : St → Option (AExit × St)) : Option (AExit × St) := match r with | some (.normal, st) => k st | r => r
@[congr] theorem bindN_congr {r r' : Option (AExit × St)} {k : St → Option (AExit × St)} (h : r = r') : bindN r k = bindN r' k := by rw [h]
theorem bindN_normal (st : St) (k : St → Option (AExit × St)) : bindN (some (.normal, st)) k = k st := (rfl)
theorem bindN_ret (st : St) (k : St → Option (AExit × St)) : bindN (some (.ret, st)) k = some (.ret, st) := (rfl)
theorem bindN_exit (i : Nat) (st : St) (k : St → Option (AExit × St)) : bindN (some (.exit i, st)) k = some (.exit i, st) := (rfl)
theorem bindN_goto (i : Nat) (st : St) (k : St → Option (AExit × St)) : bindN (some (.goto i, st)) k = some (.goto i, st) := (rfl)
theorem bindN_pan (ch : List APan) (st : St) (k : St → Option (AExit × St)) : bindN (some (.pan ch, st)) k = some (.pan ch, st) := (rfl)
def blkK (mk : Option (List Bool)) (id : Nat) (r : Option (AExit × St)) : Option (AExit × St) := match r with
 | some (.exit id', st') => if id' = id then some (.normal, st'.masked mk) else some (.exit id', st')
 | r => r
theorem blkK_normal (mk : Option (List Bool)) (id : Nat) (st : St) : blkK mk id (some (.normal, st)) = some (.normal, st) := (rfl)
theorem blkK_ret (mk : Option (List Bool)) (id : Nat) (st : St) : blkK mk id (some (.ret, st)) = some (.ret, st) := (rfl)
theorem blkK_pan (mk : Option (List Bool)) (id : Nat) (ch : List APan) (st : St) : blkK mk id (some (.pan ch, st)) = some (.pan ch, st) := (rfl)
theorem blkK_exit (mk : Option (List Bool)) (id id' : Nat) (st : St) : blkK mk id (some (.exit id', st)) = if id' = id then some (.normal, st.masked mk) else some (.exit id', st) := (rfl)
theorem masked_none (st : St) : st.masked none = st := (rfl)
def bK {α : Type} (v : AV) (x y : Option α) : Option α := match v with | .bool true => x | .bool false => y | _ => none
@[congr] theorem bK_congr {α : Type} {v v' : AV} {x y : Option α} (h : v = v') : bK v x y = bK v' x y := by rw [h]
theorem bK_true {α : Type} (x y : Option α) : bK (.bool true) x y = x := (rfl)
theorem bK_false {α : Type} (x y : Option α) : bK (.bool false) x y = y := (rfl)
def gK {α : Type} (v : AV) (want : Bool) (x y : Option α) : Option α := match v with | .bool b => if b = want then x else y | .tup [] => y | _ => none
@[congr] theorem gK_congr {α : Type} {v v' : AV} {w : Bool} {x y : Option α} (h : v = v') : gK v w x y = gK v' w x y := by rw [h]
theorem gK_tt {α : Type} (x y : Option α) : gK (.bool true) true x y = x := (rfl)
theorem gK_ff {α : Type} (x y : Option α) : gK (.bool false) false x y = x := (rfl)
theorem gK_tf {α : Type} (x y : Option α) : gK (.bool true) false x y = y := (rfl)
theorem gK_ft {α : Type} (x y : Option α) : gK (.bool false) true x y = y := (rfl)
theorem gK_un {α : Type} (w : Bool) (x y : Option α) : gK (.tup []) w x y = y := (rfl)
theorem gK_un' {α : Type} (w : Bool) (x y : Option α) : gK .undef w x y = y := (rfl)
def rK (H : Handler) (r : OR) (k : AV → St → Option (AExit × St)) : Option (AExit × St) := match r with
 | .val v st' => k v st'
 | .pan ch st' => some (.pan ch, st')
 | .call t as st' => match H.call t as st'.S with
  | none => none
  | some (.ret v, S') => k v { st' with S := S' }
  | some (.pan ch, S') => some (.pan ch, { st' with S := S' })
@[congr] theorem rK_congr {r r' : OR} {k : AV → St → Option (AExit × St)} (h : r = r') : rK H r k = rK H r' k := by rw [h]
theorem rK_val (v : AV) (st : St) (k : AV → St → Option (AExit × St)) : rK H (.val v st) k = k v st := (rfl)
theorem rK_pan (ch : List APan) (st : St) (k : AV → St → Option (AExit × St)) : rK H (.pan ch st) k = some (.pan ch, st) := (rfl)
def cK (r : Option (AEnd × Sto)) (st : St) (k : AV → St → Option (AExit × St)) : Option (AExit × St) := match r with
 | none => none
 | some (.ret v, S') => k v { st with S := S' }
 | some (.pan ch, S') => some (.pan ch, { st with S := S' })
@[congr] theorem cK_congr {r r' : Option (AEnd × Sto)} {st : St} {k : AV → St → Option (AExit × St)} (h : r = r') : cK r st k = cK r' st k := by rw [h]
theorem cK_ret (v : AV) (S' : Sto) (st : St) (k : AV → St → Option (AExit × St)) : cK (some (.ret v, S')) st k = k v { st with S := S' } := (rfl)
theorem cK_pan (ch : List APan) (S' : Sto) (st : St) (k : AV → St → Option (AExit × St)) : cK (some (.pan ch, S')) st k = some (.pan ch, { st with S := S' }) := (rfl)
theorem rK_call (t : Tgt) (as : List AV) (st : St) (k : AV → St → Option (AExit × St)) : rK H (.call t as st) k = cK (H.call t as st.S) st k := by
 simp only [rK, cK]
theorem ev_skip (st : St) : evCode P H N pol f round .skip st = some (.normal, st) := (rfl)
theorem ev_label (l : Nat) (st : St) : evCode P H N pol f round (.label l) st = some (.normal, st) := (rfl)
theorem ev_seq (a b : Code) (st : St) : evCode P H N pol f round (.seq a b) st = bindN (evCode P H N pol f round a st) (evCode P H N pol f round b) := by
 conv => lhs; unfold evCode
 unfold bindN
 rfl
theorem ev_cond (c : Operand) (a b : Code) (st : St) : evCode P H N pol f round (.cond c a b) st = bK (opd st.env c) (evCode P H N pol f round a st) (evCode P H N pol f round b st) := by
 conv => lhs; unfold evCode
 unfold bK
 rfl
theorem ev_block (id : Nat) (c : Code) (st : St) : evCode P H N pol f round (.block id c) st = blkK (pol.out f id) id (evCode P H N pol f round c st) := by
 conv => lhs; unfold evCode
 unfold blkK
 rfl
theorem ev_exit (id : Nat) (st : St) : evCode P H N pol f round (.exit id) st = some (.exit id, st) := (rfl)
theorem ev_goto (id : Nat) (st : St) : evCode P H N pol f round (.goto id) st = some (.goto id, st) := (rfl)
theorem ev_ret (st : St) : evCode P H N pol f round .ret st = some (.ret, st) := (rfl)
theorem frzSt_nil (st : St) : frzSt st [] = st := (rfl)
theorem ev_region (id : Nat) (ops : Array Oper) (st : St) : evCode P H N pol f round (.region id ops false) st = evOps P H pol f ops (ops.toList.filterMap isPlaceOp) (List.range ops.size) (frzSt st (pol.fzr f id)) := by
 conv => lhs; unfold evCode
 rfl
theorem ev_loop (c : Code) (st : St) : evCode P H N pol f round (.loop c) st = loopN (pol.keep f) (evCode P H N pol f round c) N st := by
 conv => lhs; unfold evCode
theorem ev_draw (id : Nat) (ops : Array Oper) (st : St) : evCode P H N pol f round (.region id ops true) st = evDraw P H pol f id ops (frzSt st (pol.fzr f id)) := by
 conv => lhs; unfold evCode
 rfl
def wantedK {α : Type} (ops : Array Oper) (o : Oper) (env : List AV) (x y : Option α) : Option α := match wantedA ops o env with | none => none | some true => x | some false => y
theorem wantedK_none {α : Type} {d : Option Tmp} {op : Op} {ty : TypeId} {po : String} {af : Array Edge} (env : List AV) (x y : Option α) : wantedK ops ⟨d, op, ty, po, af, none⟩ env x y = x := (rfl)
theorem wantedK_some {α : Type} {d : Option Tmp} {op : Op} {ty : TypeId} {po : String} {af : Array Edge} {j : Nat} {w : Bool} (env : List AV) (x y : Option α) :
  wantedK ops ⟨d, op, ty, po, af, some (j, w)⟩ env x y = match (ops[j]?).bind (·.dst) with | some t => gK (env.getD t .undef) w x y | none => y := by
 show (match (match (ops[j]?).bind (·.dst) with
  | some d => (match env.getD d .undef with
   | .bool b => some (b == w)
   | .tup [] => some false
   | _ => none)
  | none => some false) with | none => none | some true => x | some false => y) = _
 unfold gK
 cases (ops[j]?).bind (·.dst) with
 | none => rfl
 | some t =>
  show (match (match env.getD t .undef with
   | .bool b => some (b == w)
   | .tup [] => some false
   | _ => none) with | none => none | some true => x | some false => y) = _
  simp only
  generalize env.getD t .undef = v
  cases v <;> try rfl
  case bool b => cases b <;> cases w <;> rfl
  case tup vs => cases vs <;> rfl
theorem evOps_nil (st : St) : evOps P H pol f ops pl [] st = some (.normal, { st with env := wipe st.env pl }) := (rfl)
theorem evOps_cons (i : Nat) (rest : List Nat) (st : St) : evOps P H pol f ops pl (i :: rest) st = oB (ops[i]?) fun o => wantedK ops o st.env
   (oB (opA P pol f pl o st) fun r => rK H r fun v st' => evOps P H pol f ops pl rest (st'.puts o.dst (leftA o v)))
   (evOps P H pol f ops pl rest (st.puts o.dst .undef)) := by
 conv => lhs; unfold evOps
 unfold oB wantedK rK
 simp only [opK_eq]
 cases ops[i]? with
 | none => rfl
 | some o =>
  simp only
  cases wantedA ops o st.env with
  | none => rfl
  | some w =>
   cases w with
   | false => rfl
   | true =>
    simp only
    cases opA P pol f pl o st with
    | none => rfl
    | some r =>
     cases r with
     | val v st' => rfl
     | pan ch st' => rfl
     | call t as st' =>
      simp only
      cases H.call t as st'.S with
      | none => rfl
      | some eS => obtain ⟨e, S'⟩ := eS; cases e <;> rfl
section ops
variable {d : Option Tmp} {ty : TypeId} {po : String} {af : Array Edge} {g : Option (Nat × Bool)} {st : St}
def pureK (st : St) (v : Option AV) : Option OR := v.map fun v => .val v st
theorem opA_move {t : Tmp} {x : Operand} : opA P pol f pl ⟨some t, .move x, ty, po, af, g⟩ st = bif pol.take f t then some (.val (opt st.env x) { st with env := stripAt st.env (tmpsOf [x]) }) else some (.val (opd st.env x) st) := by
 unfold opA
 simp only [isPure, if_true, pureA, consumed]
 cases pol.take f t <;> rfl
theorem opA_assign {x : Operand} : opA P pol f pl ⟨d, .assign x, ty, po, af, g⟩ st = some (.val (opt st.env x) { st with env := stripAt st.env (tmpsOf [x]) }) := (rfl)
theorem opA_pick {c a b : Operand} : opA P pol f pl ⟨d, .pick c a b, ty, po, af, g⟩ st = bK (opd st.env c) (some (.val (opd st.env a) st)) (some (.val (opd st.env b) st)) := by
 unfold opA
 simp only [isPure, if_true, pureA, consumed, stripAt, bK]
 cases opd st.env c <;> try rfl
 rename_i b; cases b <;> rfl
theorem opA_build {t : TypeId} {ps : Array (Nat × Operand)} : opA P pol f pl ⟨d, .build t ps, ty, po, af, g⟩ st = (match ps.toList with
  | [(i, x)] => oB (buildA P t [(i, opt st.env x)]) fun v => some (.val v { st with env := stripAt st.env (tmpsOf [x]) })
  | l => oB (buildA P t (l.map fun p => (p.1, opd st.env p.2))) fun v => some (.val v st)) := by
 unfold opA
 simp only [isPure, if_true, pureA, consumed]
 split
 ·rename_i i x h
  simp only [h]
  cases buildA P t [(i, opt st.env x)] <;> rfl
 ·rename_i h
  split
  ·rename_i i x h'; exact absurd h' (h i x)
  ·simp only [stripAt]
   cases buildA P t (ps.toList.map fun p => (p.1, opd st.env p.2)) <;> rfl
def placeOf : AV → Option AV
 | .ptr id off => some (.ptr id off)
 | .lptr s off => some (.lptr s off)
 | .fptr cs => some (.fptr cs)
 | .aptr id r off => some (.aptr id r off)
 | .fn (.func g) a b => some (.fn (.func g) a b)
 | .yld id => some (.yld id)
 | _ => none
theorem opA_nilCheck {x : Operand} : opA P pol f pl ⟨d, .nilCheck x, ty, po, af, g⟩ st = oB (placeOf (adr st.env x)) fun v => some (.val v st) := by
 unfold opA
 simp only [isPure, if_true, pureA, consumed, stripAt]
 unfold placeOf
 cases adr st.env x <;> try rfl
 rename_i fn a b; cases fn <;> rfl
theorem opA_binOp {op : BinOp} {t yt : TypeId} {x y : Operand} : opA P pol f pl ⟨d, .binOp op t x y yt, ty, po, af, g⟩ st = oB (binA P op t ((x matches .const _) || (y matches .const _)) (opd st.env x) (opd st.env y)) fun v => some (.val v st) := by
 unfold opA
 simp only [isPure, if_true, pureA, consumed, stripAt, oB]
 generalize binA P op t _ (opd st.env x) (opd st.env y) = r
 cases r <;> rfl
theorem opA_unOp {op : UnOp} {t : TypeId} {x : Operand} : opA P pol f pl ⟨d, .unOp op t x, ty, po, af, g⟩ st = oB (unA op (opd st.env x)) fun v => some (.val v st) := by
 unfold opA
 simp only [isPure, if_true, pureA, consumed, stripAt, oB]
 cases unA op (opd st.env x) <;> rfl
def ifaceK (P : Program) (t : TypeId) (v : AV) (st : St) : Option OR := match P.underlying t with
 | some (.interface _) => none
 | some _ => some (.val (.iface t v) st)
 | none => none
theorem opA_makeInterface {t : TypeId} {x : Operand} : opA P pol f pl ⟨d, .makeInterface t x, ty, po, af, g⟩ st = ifaceK P t (opd st.env x) st := by
 unfold opA
 simp only [isPure, if_true, pureA, consumed, stripAt, ifaceK]
 cases P.underlying t with
 | none => rfl
 | some dd => cases dd <;> rfl
theorem opA_makeFunc {gf : FuncId} {first cap : Array Operand} : opA P pol f pl ⟨d, .makeFunc (.func gf) first cap, ty, po, af, g⟩ st = some (.val (.fn (.func gf) (first.toList.map (opd st.env)) (cap.toList.map (opd st.env))) st) := (rfl)
theorem opA_slice {t : TypeId} {x : Operand} {lo hi mx : Option Operand} : opA P pol f pl ⟨d, .slice t x lo hi mx, ty, po, af, g⟩ st =
  oB (sliceA P t (opt st.env x) (lo.map (opd st.env)) (hi.map (opd st.env)) (mx.map (opd st.env))) fun v => some (.val v { st with env := stripAt st.env (tmpsOf [x]) }) := by
 unfold opA
 simp only [isPure, if_true, pureA, consumed, oB]
 cases sliceA P t (opt st.env x) (lo.map (opd st.env)) (hi.map (opd st.env)) (mx.map (opd st.env)) <;> rfl
theorem opA_fieldAddr {s : TypeId} {x : Operand} {i : Nat} : opA P pol f pl ⟨d, .fieldAddr s x i, ty, po, af, g⟩ st = oB (fieldAddrA P s (adr st.env x) i) fun v => some (.val v st) := by
 unfold opA
 simp only [isPure, if_true, pureA, consumed, stripAt, oB]
 cases fieldAddrA P s (adr st.env x) i <;> rfl
theorem opA_field {t : TypeId} {x : Operand} {i : Nat} : opA P pol f pl ⟨d, .field t x i, ty, po, af, g⟩ st = oB (fieldA P t (opd st.env x) i) fun v => some (.val v st) := by
 unfold opA
 simp only [isPure, if_true, pureA, consumed, stripAt, oB]
 cases fieldA P t (opd st.env x) i <;> rfl
theorem opA_indexAddr {t : TypeId} {x i : Operand} : opA P pol f pl ⟨d, .indexAddr t x i, ty, po, af, g⟩ st = oB (indexAddrA P t (adr st.env x) (opd st.env i)) fun v => some (.val v st) := by
 unfold opA
 simp only [isPure, if_true, pureA, consumed, stripAt, oB]
 cases indexAddrA P t (adr st.env x) (opd st.env i) <;> rfl
theorem opA_index {t : TypeId} {x i : Operand} : opA P pol f pl ⟨d, .index t x i, ty, po, af, g⟩ st = oB (indexA P t (opd st.env x) (opd st.env i)) fun v => some (.val v st) := by
 unfold opA
 simp only [isPure, if_true, pureA, consumed, stripAt, oB]
 cases indexA P t (opd st.env x) (opd st.env i) <;> rfl
theorem opA_typeAssert {x : Operand} {xt t : TypeId} {ok : Bool} : opA P pol f pl ⟨d, .typeAssert x xt t ok, ty, po, af, g⟩ st = oB (assertA P (opd st.env x) t ok) fun v => some (.val v st) := by
 unfold opA
 simp only [isPure, if_true, pureA, consumed, stripAt, oB]
 cases assertA P (opd st.env x) t ok <;> rfl
def extK (v : AV) (i : Nat) : Option AV := match v with | .tup vs => vs[i]? | _ => none
theorem opA_extract {x : Operand} {i : Nat} : opA P pol f pl ⟨d, .extract x i, ty, po, af, g⟩ st = oB (extK (opd st.env x) i) fun v => some (.val v st) := by
 unfold opA
 simp only [isPure, if_true, pureA, consumed, stripAt, oB]
 unfold extK
 cases opd st.env x <;> try rfl
 rename_i vs; simp only; cases vs[i]? <;> rfl
theorem opA_min {args : Array Operand} {ts : Array TypeId} : opA P pol f pl ⟨d, .call { callee := .builtin .min, args := args, argTypes := ts }, ty, po, af, g⟩ st = oB (foldA min2 (args.toList.map (opd st.env))) fun v => some (.val v st) := by
 unfold opA
 simp only [isPure, if_true, pureA, consumed, stripAt, oB]
 cases foldA min2 (args.toList.map (opd st.env)) <;> rfl
theorem opA_max {args : Array Operand} {ts : Array TypeId} : opA P pol f pl ⟨d, .call { callee := .builtin .max, args := args, argTypes := ts }, ty, po, af, g⟩ st = oB (foldA max2 (args.toList.map (opd st.env))) fun v => some (.val v st) := by
 unfold opA
 simp only [isPure, if_true, pureA, consumed, stripAt, oB]
 cases foldA max2 (args.toList.map (opd st.env)) <;> rfl
theorem opA_alloc {t : TypeId} : opA P pol f pl ⟨d, .alloc t, ty, po, af, g⟩ st = oB (zeroA P t) fun z => newVarA pol f pl d z.cells st := by
 unfold opA
 simp only [consumed, stripAt, oB]
 cases zeroA P t <;> rfl
theorem opA_box {t : TypeId} {x : Operand} : opA P pol f pl ⟨d, .box t x, ty, po, af, g⟩ st =
  if okTop (opt st.env x) = true ∧ (opt st.env x).cells.length = P.cellsOf t then newVarA pol f pl d (opt st.env x).cells { st with env := stripAt st.env (tmpsOf [x]) } else none := (rfl)
theorem opA_load {t : TypeId} {a : Operand} : opA P pol f pl ⟨d, .load t a, ty, po, af, g⟩ st = loadS P pol f d t (adr st.env a) st := (rfl)
theorem opA_store {t : TypeId} {a x : Operand} : opA P pol f pl ⟨d, .store t a x, ty, po, af, g⟩ st = storeS P t (adr st.env a) (opt st.env x) { st with env := stripAt st.env (tmpsOf [x]) } := (rfl)
theorem opA_len {a : Operand} {t : TypeId} : opA P pol f pl ⟨d, .call { callee := .builtin .len, args := #[a], argTypes := #[t] }, ty, po, af, g⟩ st = oB (lenA P st.S t (opd st.env a)) fun v => some (.val v st) := by
 unfold opA
 simp only [consumed, stripAt, oB]
 cases lenA P st.S t (opd st.env a) <;> rfl
theorem opA_recover {args : Array Operand} {ts : Array TypeId} : opA P pol f pl ⟨d, .call { callee := .builtin .recover, args := args, argTypes := ts }, ty, po, af, g⟩ st = oB (recoverA st) fun r => some (.val r.1 r.2) := by
 unfold opA
 simp only [consumed, stripAt, oB]
 cases recoverA st <;> rfl
theorem opA_callv {x : Operand} {args : Array Operand} {ts : Array TypeId} : opA P pol f pl ⟨d, .call { callee := .value x, args := args, argTypes := ts }, ty, po, af, g⟩ st =
  oB (calleeA (argsA st.env args.toList) (opd st.env x)) fun r => some (.call r.1 r.2 { st with env := stripAt st.env (tmpsOf args.toList) }) := by
 unfold opA
 simp only [consumed, oB]
 cases calleeA (argsA st.env args.toList) (opd st.env x) <;> rfl
theorem opA_defer {x : Operand} {args : Array Operand} {ts : Array TypeId} : opA P pol f pl ⟨d, .defer { callee := .value x, args := args, argTypes := ts }, ty, po, af, g⟩ st =
  oB (deferA st (opd st.env x) (args.toList.map (opd st.env))) fun st' => some (.val .undef st') := by
 unfold opA
 simp only [consumed, stripAt, oB]
 cases deferA st (opd st.env x) (args.toList.map (opd st.env)) <;> rfl
def panK (v : AV) (st : St) : Option OR := match v with | .iface t v => some (.pan [⟨.iface t v, false⟩] st) | _ => none
theorem opA_panic {x : Operand} : opA P pol f pl ⟨d, .panic x, ty, po, af, g⟩ st = panK (opd st.env x) st := by
 unfold opA
 simp only [consumed, stripAt, panK]
 cases opd st.env x <;> rfl
theorem opA_append {t : Tmp} {a b : Operand} {s x : TypeId} : opA P pol f pl ⟨some t, .call { callee := .builtin .append, args := #[a, b], argTypes := #[s, x] }, ty, po, af, g⟩ st =
  appendS P (pol.arr f t) s x (opt st.env a) (opd st.env b) { st with env := stripAt st.env (tmpsOf [a]) } := (rfl)
def arrK (how : Nat) (v : AV) (st : St) : Option OR := if how = 2 then asArr v st else some (.val v st)
theorem opA_makeSlice {t : Tmp} {s : TypeId} {l c : Operand} : opA P pol f pl ⟨some t, .makeSlice s l c, ty, po, af, g⟩ st = oB (makeSliceA P s (opd st.env l) (opd st.env c)) fun v => arrK (pol.arr f t) v st := by
 unfold opA
 simp only [consumed, stripAt, oB]
 cases makeSliceA P s (opd st.env l) (opd st.env c) <;> rfl
theorem opA_buildSlice {t : Tmp} {s : TypeId} {n : Nat} {ps : Array (Nat × Operand)} : opA P pol f pl ⟨some t, .buildSlice s n ps, ty, po, af, g⟩ st = oB (buildSliceA P s n (ps.toList.map fun p => (p.1, opd st.env p.2))) fun v => arrK (pol.arr f t) v st := by
 unfold opA
 simp only [consumed, stripAt, oB]
 cases buildSliceA P s n (ps.toList.map fun p => (p.1, opd st.env p.2)) <;> rfl
theorem opA_convert {t : Tmp} {src dst : TypeId} {x : Operand} : opA P pol f pl ⟨some t, .convert src dst x, ty, po, af, g⟩ st = (match convA P src dst (opt st.env x) with
  | some v => some (.val v { st with env := stripAt st.env (tmpsOf [x]) })
  | none => if pol.arr f t = 0 then none
    else match P.underlying src, P.underlying dst, opd st.env x with
     | some (.slice e), some .string, .rsl id es off len => match P.underlying e with
      | some (.int .u8) => match rowsIn st.S 1 (.rsl id es off len) with
       | some rows => (bytesOf? rows).map fun b => .val (.str b) { st with env := stripAt st.env (tmpsOf [x]) }
       | none => none
      | _ => none
     | _, _, _ => none) := (rfl)
end ops
def getT : List AV → Nat → AV
 | [], _ => .undef
 | v :: _, 0 => v
 | _ :: vs, n + 1 => getT vs n
def setT : List AV → Nat → AV → List AV
 | [], _, _ => []
 | _ :: vs, 0, w => w :: vs
 | v :: vs, n + 1, w => v :: setT vs n w
theorem getT_eq : ∀ (l : List AV) (t : Nat), l.getD t .undef = getT l t
 | [], _ => rfl
 | _ :: _, 0 => rfl
 | _ :: vs, n + 1 => by simp only [getT]; rw [← getT_eq vs n]; rfl
theorem setT_eq : ∀ (l : List AV) (t : Nat) (w : AV), l.set t w = setT l t w
 | [], _, _ => rfl
 | _ :: _, 0, _ => rfl
 | v :: vs, n + 1, w => by simp only [setT, List.set_cons_succ]; rw [setT_eq vs n]
theorem getT_zero (v : AV) (vs : List AV) : getT (v :: vs) 0 = v := (rfl)
theorem getT_succ (v : AV) (vs : List AV) (n : Nat) : getT (v :: vs) (n + 1) = getT vs n := (rfl)
theorem setT_zero (v w : AV) (vs : List AV) : setT (v :: vs) 0 w = w :: vs := (rfl)
theorem setT_succ (v w : AV) (vs : List AV) (n : Nat) : setT (v :: vs) (n + 1) w = v :: setT vs n w := (rfl)
theorem opd_tmp (env : List AV) (t : Nat) : opd env (.tmp t) = (getT env t).strip := by simp only [opd, getT_eq]
theorem opd_const (env : List AV) (v : Value) : opd env (.const v) = AV.ofConst v := (rfl)
theorem opd_func (env : List AV) (g : FuncId) : opd env (.func g) = .fn (.func g) [] [] := (rfl)
theorem opt_tmp (env : List AV) (t : Nat) : opt env (.tmp t) = (getT env t).clr := by simp only [opt, getT_eq]
theorem opt_const (env : List AV) (v : Value) : opt env (.const v) = AV.ofConst v := (rfl)
theorem opt_func (env : List AV) (g : FuncId) : opt env (.func g) = .fn (.func g) [] [] := (rfl)
def adrOf (t : Nat) : AV → AV
 | .box _ => .lptr t 0
 | v => v
theorem adrT_tmp (env : List AV) (t : Nat) : adr env (.tmp t) = adrOf t (getT env t) := by
 simp only [adr, getT_eq]
 cases getT env t <;> rfl
theorem adr_const (env : List AV) (v : Value) : adr env (.const v) = .unk := (rfl)
theorem stripAt_nil (env : List AV) : stripAt env [] = env := (rfl)
theorem stripAt_cons (env : List AV) (t : Tmp) (ts : List Tmp) : stripAt env (t :: ts) = stripAt (setT env t (getT env t).strip) ts := by simp only [stripAt, getT_eq, setT_eq]
theorem wipe_nil (env : List AV) : wipe env [] = env := (rfl)
theorem wipe_cons (env : List AV) (t : Tmp) (ts : List Tmp) : wipe env (t :: ts) = wipe (setT env t .unk) ts := by simp only [wipe, setT_eq]
theorem puts_some (st : St) (t : Tmp) (v : AV) : st.puts (some t) v = { st with env := setT st.env t v } := by simp only [St.puts, setT_eq]
theorem puts_none (st : St) (v : AV) : st.puts none v = st := (rfl)
theorem tmpsOf_nil : tmpsOf [] = [] := (rfl)
theorem tmpsOf_tmp (t : Tmp) (xs : List Operand) : tmpsOf (.tmp t :: xs) = t :: tmpsOf xs := (rfl)
theorem tmpsOf_const (v : Value) (xs : List Operand) : tmpsOf (.const v :: xs) = tmpsOf xs := (rfl)
theorem tmpsOf_func (g : FuncId) (xs : List Operand) : tmpsOf (.func g :: xs) = tmpsOf xs := (rfl)
def dstAt : List Oper → Nat → Option Tmp
 | [], _ => none
 | o :: _, 0 => o.dst
 | _ :: r, n + 1 => dstAt r n
def opAt : List Oper → Nat → Option Oper
 | [], _ => none
 | o :: _, 0 => some o
 | _ :: r, n + 1 => opAt r n
theorem opAt_eq : ∀ (l : List Oper) (j : Nat), l[j]? = opAt l j
 | [], _ => rfl
 | _ :: _, 0 => rfl
 | _ :: r, n + 1 => by simp only [opAt, List.getElem?_cons_succ]; exact opAt_eq r n
theorem dstAt_eq : ∀ (l : List Oper) (j : Nat), (l[j]?).bind (·.dst) = dstAt l j
 | [], _ => rfl
 | _ :: _, 0 => rfl
 | _ :: r, n + 1 => by simp only [dstAt, List.getElem?_cons_succ]; exact dstAt_eq r n
theorem dstAt_zero (o : Oper) (r : List Oper) : dstAt (o :: r) 0 = o.dst := (rfl)
theorem dstAt_succ (o : Oper) (r : List Oper) (n : Nat) : dstAt (o :: r) (n + 1) = dstAt r n := (rfl)
theorem opAt_zero (o : Oper) (r : List Oper) : opAt (o :: r) 0 = some o := (rfl)
theorem opAt_succ (o : Oper) (r : List Oper) (n : Nat) : opAt (o :: r) (n + 1) = opAt r n := (rfl)
def gT {α : Type} (env : List AV) (t : Option Tmp) (w : Bool) (x y : Option α) : Option α := match t with | some t => gK (getT env t) w x y | none => y
@[congr] theorem gT_congr {α : Type} {env : List AV} {t t' : Option Tmp} {w : Bool} {x y : Option α} (h : t = t') : gT env t w x y = gT env t' w x y := by rw [h]
theorem gT_some {α : Type} (env : List AV) (t : Tmp) (w : Bool) (x y : Option α) : gT env (some t) w x y = gK (getT env t) w x y := (rfl)
def wantedL {α : Type} (all : List Oper) (o : Oper) (env : List AV) (x y : Option α) : Option α := match o.guard with | none => x | some (j, w) => gT env (dstAt all j) w x y
@[congr] theorem wantedL_congr {α : Type} {all : List Oper} {o o' : Oper} {env : List AV} {x y : Option α} (h : o = o') : wantedL all o env x y = wantedL all o' env x y := by rw [h]
theorem wantedL_none {α : Type} {all : List Oper} {d : Option Tmp} {op : Op} {ty : TypeId} {po : String} {af : Array Edge} (env : List AV) (x y : Option α) : wantedL all ⟨d, op, ty, po, af, none⟩ env x y = x := (rfl)
theorem wantedL_some {α : Type} {all : List Oper} {d : Option Tmp} {op : Op} {ty : TypeId} {po : String} {af : Array Edge} {j : Nat} {w : Bool} (env : List AV) (x y : Option α) : wantedL all ⟨d, op, ty, po, af, some (j, w)⟩ env x y = gT env (dstAt all j) w x y := (rfl)
theorem wantedL_eq {α : Type} (o : Oper) (env : List AV) (x y : Option α) : wantedK ops o env x y = wantedL ops.toList o env x y := by
 obtain ⟨d, op, ty, po, af, g⟩ := o
 cases g with
 | none => rfl
 | some jw =>
  obtain ⟨j, w⟩ := jw
  rw [wantedK_some, wantedL_some]
  have : (ops[j]?).bind (·.dst) = dstAt ops.toList j := by rw [← dstAt_eq]; simp
  rw [this]
  unfold gT
  cases dstAt ops.toList j with
  | none => rfl
  | some t => simp only [getT_eq]
def evL (P : Program) (H : Handler) (pol : Pol) (f : FuncId) (all : List Oper) (pl : List Tmp) : List Oper → St → Option (AExit × St)
 | [], st => some (.normal, { st with env := wipe st.env pl })
 | o :: rest, st => wantedL all o st.env
   (oB (opA P pol f pl o st) fun r => rK H r fun v st' => evL P H pol f all pl rest (st'.puts o.dst (leftA o v)))
   (evL P H pol f all pl rest (st.puts o.dst .undef))
theorem evL_nil {all : List Oper} (st : St) : evL P H pol f all pl [] st = some (.normal, { st with env := wipe st.env pl }) := (rfl)
theorem evL_cons {all : List Oper} (o : Oper) (rest : List Oper) (st : St) : evL P H pol f all pl (o :: rest) st = wantedL all o st.env
   (oB (opA P pol f pl o st) fun r => rK H r fun v st' => evL P H pol f all pl rest (st'.puts o.dst (leftA o v)))
   (evL P H pol f all pl rest (st.puts o.dst .undef)) := (rfl)
theorem evOps_evL : ∀ (n : Nat) (st : St), n ≤ ops.size → evOps P H pol f ops pl (List.range' (ops.size - n) n) st = evL P H pol f ops.toList pl (ops.toList.drop (ops.size - n)) st
 | 0, st, _ => by
  have : ops.toList.drop (ops.size - 0) = [] := by simp
  rw [this]; rfl
 | n + 1, st, h => by
  have hlt : ops.size - (n + 1) < ops.toList.length := by simp; omega
  rw [List.drop_eq_getElem_cons hlt, List.range'_succ]
  have e1 : ops.size - (n + 1) + 1 = ops.size - n := by omega
  rw [e1, evOps_cons, evL_cons]
  have hop : ops[ops.size - (n + 1)]? = some ops.toList[ops.size - (n + 1)] := by
   rw [← Array.getElem?_toList, List.getElem?_eq_getElem hlt]
  rw [hop, oB_some, wantedL_eq]
  have ih := fun st => evOps_evL n st (by omega)
  simp only [ih]
theorem evOps_all (st : St) : evOps P H pol f ops pl (List.range ops.size) st = evL P H pol f ops.toList pl ops.toList st := by
 have := evOps_evL (P := P) (H := H) (pol := pol) (f := f) (ops := ops) (pl := pl) ops.size st (Nat.le_refl _)
 simpa [List.range_eq_range'] using this
def consO (o : Option Tmp) (l : List Tmp) : List Tmp := match o with | none => l | some t => t :: l
theorem consO_none (l : List Tmp) : consO none l = l := (rfl)
theorem consO_some (t : Tmp) (l : List Tmp) : consO (some t) l = t :: l := (rfl)
def plL : List Oper → List Tmp
 | [] => []
 | o :: r => consO (isPlaceOp o) (plL r)
theorem plL_nil : plL [] = [] := (rfl)
theorem plL_cons (o : Oper) (r : List Oper) : plL (o :: r) = consO (isPlaceOp o) (plL r) := (rfl)
theorem plL_eq : ∀ l : List Oper, l.filterMap isPlaceOp = plL l
 | [] => rfl
 | o :: r => by
  rw [List.filterMap_cons, plL_cons, plL_eq r]
  cases isPlaceOp o <;> rfl
theorem ev_regionL (id : Nat) (l : List Oper) (st : St) : evCode P H N pol f round (.region id l.toArray false) st = evL P H pol f l (plL l) l (frzSt st (pol.fzr f id)) := by
 rw [ev_region, evOps_all, plL_eq]
theorem strip0_unk  : AV.strip0 (.unk) = .unk := (rfl)
theorem strip0_bool (b : Bool) : AV.strip0 (.bool b) = .bool b := (rfl)
theorem strip0_int (k : IntKind) (n : Int) : AV.strip0 (.int k n) = .int k n := (rfl)
theorem strip0_str (s : List UInt8) : AV.strip0 (.str s) = .str s := (rfl)
theorem strip0_nilptr  : AV.strip0 (.nilptr) = .nilptr := (rfl)
theorem strip0_ptr (i o : Nat) : AV.strip0 (.ptr i o) = .ptr i o := (rfl)
theorem strip0_fptr (cs : List AV) : AV.strip0 (.fptr cs) = .fptr cs := (rfl)
theorem strip0_box (cs : List AV) : AV.strip0 (.box cs) = .unk := (rfl)
theorem strip0_lptr (s o : Nat) : AV.strip0 (.lptr s o) = .unk := (rfl)
theorem strip0_nilsl  : AV.strip0 (.nilsl) = .nilsl := (rfl)
theorem strip0_sl (w : Bool) (es : Nat) (rs : List (List AV)) : AV.strip0 (.sl w es rs) = .sl false es rs := (rfl)
theorem strip0_rsl (a b c d : Nat) : AV.strip0 (.rsl a b c d) = .rsl a b c d := (rfl)
theorem strip0_aptr (a b c : Nat) : AV.strip0 (.aptr a b c) = .aptr a b c := (rfl)
theorem strip0_nilmap  : AV.strip0 (.nilmap) = .nilmap := (rfl)
theorem strip0_map (i : Nat) : AV.strip0 (.map i) = .map i := (rfl)
theorem strip0_nilfn  : AV.strip0 (.nilfn) = .nilfn := (rfl)
theorem strip0_fn (g : Fn) (a b : List AV) : AV.strip0 (.fn g a b) = .fn g a b := (rfl)
theorem strip0_yld (i : Nat) : AV.strip0 (.yld i) = .yld i := (rfl)
theorem strip0_niliface  : AV.strip0 (.niliface) = .niliface := (rfl)
theorem strip0_iface (t : TypeId) (v : AV) : AV.strip0 (.iface t v) = .iface t v := (rfl)
theorem strip0_agg (cs : List AV) : AV.strip0 (.agg cs) = .unk := (rfl)
theorem strip0_tup (vs : List AV) : AV.strip0 (.tup vs) = .unk := (rfl)
theorem strip1_unk  : AV.strip1 (.unk) = .unk := (rfl)
theorem strip1_bool (b : Bool) : AV.strip1 (.bool b) = .bool b := (rfl)
theorem strip1_int (k : IntKind) (n : Int) : AV.strip1 (.int k n) = .int k n := (rfl)
theorem strip1_str (s : List UInt8) : AV.strip1 (.str s) = .str s := (rfl)
theorem strip1_nilptr  : AV.strip1 (.nilptr) = .nilptr := (rfl)
theorem strip1_ptr (i o : Nat) : AV.strip1 (.ptr i o) = .ptr i o := (rfl)
theorem strip1_fptr (cs : List AV) : AV.strip1 (.fptr cs) = .fptr cs := (rfl)
theorem strip1_box (cs : List AV) : AV.strip1 (.box cs) = .unk := (rfl)
theorem strip1_lptr (s o : Nat) : AV.strip1 (.lptr s o) = .unk := (rfl)
theorem strip1_nilsl  : AV.strip1 (.nilsl) = .nilsl := (rfl)
theorem strip1_sl (w : Bool) (es : Nat) (rs : List (List AV)) : AV.strip1 (.sl w es rs) = .sl false es rs := (rfl)
theorem strip1_rsl (a b c d : Nat) : AV.strip1 (.rsl a b c d) = .rsl a b c d := (rfl)
theorem strip1_aptr (a b c : Nat) : AV.strip1 (.aptr a b c) = .aptr a b c := (rfl)
theorem strip1_nilmap  : AV.strip1 (.nilmap) = .nilmap := (rfl)
theorem strip1_map (i : Nat) : AV.strip1 (.map i) = .map i := (rfl)
theorem strip1_nilfn  : AV.strip1 (.nilfn) = .nilfn := (rfl)
theorem strip1_fn (g : Fn) (a b : List AV) : AV.strip1 (.fn g a b) = .fn g a b := (rfl)
theorem strip1_yld (i : Nat) : AV.strip1 (.yld i) = .yld i := (rfl)
theorem strip1_niliface  : AV.strip1 (.niliface) = .niliface := (rfl)
theorem strip1_iface (t : TypeId) (v : AV) : AV.strip1 (.iface t v) = .iface t v := (rfl)
theorem strip1_agg (cs : List AV) : AV.strip1 (.agg cs) = .agg (cs.map AV.strip0) := (rfl)
theorem strip1_tup (vs : List AV) : AV.strip1 (.tup vs) = .unk := (rfl)
theorem strip_unk  : AV.strip (.unk) = .unk := (rfl)
theorem strip_bool (b : Bool) : AV.strip (.bool b) = .bool b := (rfl)
theorem strip_int (k : IntKind) (n : Int) : AV.strip (.int k n) = .int k n := (rfl)
theorem strip_str (s : List UInt8) : AV.strip (.str s) = .str s := (rfl)
theorem strip_nilptr  : AV.strip (.nilptr) = .nilptr := (rfl)
theorem strip_ptr (i o : Nat) : AV.strip (.ptr i o) = .ptr i o := (rfl)
theorem strip_fptr (cs : List AV) : AV.strip (.fptr cs) = .fptr cs := (rfl)
theorem strip_box (cs : List AV) : AV.strip (.box cs) = .unk := (rfl)
theorem strip_lptr (s o : Nat) : AV.strip (.lptr s o) = .unk := (rfl)
theorem strip_nilsl  : AV.strip (.nilsl) = .nilsl := (rfl)
theorem strip_sl (w : Bool) (es : Nat) (rs : List (List AV)) : AV.strip (.sl w es rs) = .sl false es rs := (rfl)
theorem strip_rsl (a b c d : Nat) : AV.strip (.rsl a b c d) = .rsl a b c d := (rfl)
theorem strip_aptr (a b c : Nat) : AV.strip (.aptr a b c) = .aptr a b c := (rfl)
theorem strip_nilmap  : AV.strip (.nilmap) = .nilmap := (rfl)
theorem strip_map (i : Nat) : AV.strip (.map i) = .map i := (rfl)
theorem strip_nilfn  : AV.strip (.nilfn) = .nilfn := (rfl)
theorem strip_fn (g : Fn) (a b : List AV) : AV.strip (.fn g a b) = .fn g a b := (rfl)
theorem strip_yld (i : Nat) : AV.strip (.yld i) = .yld i := (rfl)
theorem strip_niliface  : AV.strip (.niliface) = .niliface := (rfl)
theorem strip_iface (t : TypeId) (v : AV) : AV.strip (.iface t v) = .iface t v := (rfl)
theorem strip_agg (cs : List AV) : AV.strip (.agg cs) = .agg (cs.map AV.strip0) := (rfl)
theorem strip_tup (vs : List AV) : AV.strip (.tup vs) = .tup (vs.map AV.strip1) := (rfl)
theorem strip_undef : AV.strip .undef = .undef := (rfl)
theorem clr_unk  : AV.clr (.unk) = .unk := (rfl)
theorem clr_bool (b : Bool) : AV.clr (.bool b) = .bool b := (rfl)
theorem clr_int (k : IntKind) (n : Int) : AV.clr (.int k n) = .int k n := (rfl)
theorem clr_str (s : List UInt8) : AV.clr (.str s) = .str s := (rfl)
theorem clr_nilptr  : AV.clr (.nilptr) = .nilptr := (rfl)
theorem clr_ptr (i o : Nat) : AV.clr (.ptr i o) = .ptr i o := (rfl)
theorem clr_fptr (cs : List AV) : AV.clr (.fptr cs) = .fptr cs := (rfl)
theorem clr_box (cs : List AV) : AV.clr (.box cs) = .unk := (rfl)
theorem clr_lptr (s o : Nat) : AV.clr (.lptr s o) = .unk := (rfl)
theorem clr_nilsl  : AV.clr (.nilsl) = .nilsl := (rfl)
theorem clr_sl (w : Bool) (es : Nat) (rs : List (List AV)) : AV.clr (.sl w es rs) = .sl w es rs := (rfl)
theorem clr_rsl (a b c d : Nat) : AV.clr (.rsl a b c d) = .rsl a b c d := (rfl)
theorem clr_aptr (a b c : Nat) : AV.clr (.aptr a b c) = .aptr a b c := (rfl)
theorem clr_nilmap  : AV.clr (.nilmap) = .nilmap := (rfl)
theorem clr_map (i : Nat) : AV.clr (.map i) = .map i := (rfl)
theorem clr_nilfn  : AV.clr (.nilfn) = .nilfn := (rfl)
theorem clr_fn (g : Fn) (a b : List AV) : AV.clr (.fn g a b) = .fn g a b := (rfl)
theorem clr_yld (i : Nat) : AV.clr (.yld i) = .yld i := (rfl)
theorem clr_niliface  : AV.clr (.niliface) = .niliface := (rfl)
theorem clr_iface (t : TypeId) (v : AV) : AV.clr (.iface t v) = .iface t v := (rfl)
theorem clr_agg (cs : List AV) : AV.clr (.agg cs) = .agg cs := (rfl)
theorem clr_tup (vs : List AV) : AV.clr (.tup vs) = .tup vs := (rfl)
theorem clr_undef : AV.clr .undef = .undef := (rfl)
theorem noLp_unk  : AV.noLp (.unk) = .unk := (rfl)
theorem noLp_bool (b : Bool) : AV.noLp (.bool b) = .bool b := (rfl)
theorem noLp_int (k : IntKind) (n : Int) : AV.noLp (.int k n) = .int k n := (rfl)
theorem noLp_str (s : List UInt8) : AV.noLp (.str s) = .str s := (rfl)
theorem noLp_nilptr  : AV.noLp (.nilptr) = .nilptr := (rfl)
theorem noLp_ptr (i o : Nat) : AV.noLp (.ptr i o) = .ptr i o := (rfl)
theorem noLp_fptr (cs : List AV) : AV.noLp (.fptr cs) = .fptr cs := (rfl)
theorem noLp_box (cs : List AV) : AV.noLp (.box cs) = .box cs := (rfl)
theorem noLp_lptr (s o : Nat) : AV.noLp (.lptr s o) = .unk := (rfl)
theorem noLp_nilsl  : AV.noLp (.nilsl) = .nilsl := (rfl)
theorem noLp_sl (w : Bool) (es : Nat) (rs : List (List AV)) : AV.noLp (.sl w es rs) = .sl w es rs := (rfl)
theorem noLp_rsl (a b c d : Nat) : AV.noLp (.rsl a b c d) = .rsl a b c d := (rfl)
theorem noLp_aptr (a b c : Nat) : AV.noLp (.aptr a b c) = .aptr a b c := (rfl)
theorem noLp_nilmap  : AV.noLp (.nilmap) = .nilmap := (rfl)
theorem noLp_map (i : Nat) : AV.noLp (.map i) = .map i := (rfl)
theorem noLp_nilfn  : AV.noLp (.nilfn) = .nilfn := (rfl)
theorem noLp_fn (g : Fn) (a b : List AV) : AV.noLp (.fn g a b) = .fn g a b := (rfl)
theorem noLp_yld (i : Nat) : AV.noLp (.yld i) = .yld i := (rfl)
theorem noLp_niliface  : AV.noLp (.niliface) = .niliface := (rfl)
theorem noLp_iface (t : TypeId) (v : AV) : AV.noLp (.iface t v) = .iface t v := (rfl)
theorem noLp_agg (cs : List AV) : AV.noLp (.agg cs) = .agg cs := (rfl)
theorem noLp_tup (vs : List AV) : AV.noLp (.tup vs) = .tup vs := (rfl)
theorem noLp_undef : AV.noLp .undef = .undef := (rfl)
theorem cells_unk  : AV.cells (.unk) = [.unk] := (rfl)
theorem okTop_unk  : okTop (.unk) = false := (rfl)
theorem adrOf_unk (t_ : Nat)  : adrOf t_ (.unk) = .unk := (rfl)
theorem cells_bool (b : Bool) : AV.cells (.bool b) = [.bool b] := (rfl)
theorem okTop_bool (b : Bool) : okTop (.bool b) = true := (rfl)
theorem adrOf_bool (t_ : Nat) (b : Bool) : adrOf t_ (.bool b) = .bool b := (rfl)
theorem cells_int (k : IntKind) (n : Int) : AV.cells (.int k n) = [.int k n] := (rfl)
theorem okTop_int (k : IntKind) (n : Int) : okTop (.int k n) = true := (rfl)
theorem adrOf_int (t_ : Nat) (k : IntKind) (n : Int) : adrOf t_ (.int k n) = .int k n := (rfl)
theorem cells_str (s : List UInt8) : AV.cells (.str s) = [.str s] := (rfl)
theorem okTop_str (s : List UInt8) : okTop (.str s) = true := (rfl)
theorem adrOf_str (t_ : Nat) (s : List UInt8) : adrOf t_ (.str s) = .str s := (rfl)
theorem cells_nilptr  : AV.cells (.nilptr) = [.nilptr] := (rfl)
theorem okTop_nilptr  : okTop (.nilptr) = true := (rfl)
theorem adrOf_nilptr (t_ : Nat)  : adrOf t_ (.nilptr) = .nilptr := (rfl)
theorem cells_ptr (i o : Nat) : AV.cells (.ptr i o) = [.ptr i o] := (rfl)
theorem okTop_ptr (i o : Nat) : okTop (.ptr i o) = true := (rfl)
theorem adrOf_ptr (t_ : Nat) (i o : Nat) : adrOf t_ (.ptr i o) = .ptr i o := (rfl)
theorem placeOf_ptr (i o : Nat) : placeOf (.ptr i o) = some (.ptr i o) := (rfl)
theorem cells_fptr (cs : List AV) : AV.cells (.fptr cs) = [.fptr cs] := (rfl)
theorem okTop_fptr (cs : List AV) : okTop (.fptr cs) = true := (rfl)
theorem adrOf_fptr (t_ : Nat) (cs : List AV) : adrOf t_ (.fptr cs) = .fptr cs := (rfl)
theorem placeOf_fptr (cs : List AV) : placeOf (.fptr cs) = some (.fptr cs) := (rfl)
theorem cells_box (cs : List AV) : AV.cells (.box cs) = [.box cs] := (rfl)
theorem okTop_box (cs : List AV) : okTop (.box cs) = false := (rfl)
theorem adrOf_box (t_ : Nat) (cs : List AV) : adrOf t_ (.box cs) = .lptr t_ 0 := (rfl)
theorem cells_lptr (s o : Nat) : AV.cells (.lptr s o) = [.lptr s o] := (rfl)
theorem okTop_lptr (s o : Nat) : okTop (.lptr s o) = false := (rfl)
theorem adrOf_lptr (t_ : Nat) (s o : Nat) : adrOf t_ (.lptr s o) = .lptr s o := (rfl)
theorem placeOf_lptr (s o : Nat) : placeOf (.lptr s o) = some (.lptr s o) := (rfl)
theorem cells_nilsl  : AV.cells (.nilsl) = [.nilsl] := (rfl)
theorem okTop_nilsl  : okTop (.nilsl) = true := (rfl)
theorem adrOf_nilsl (t_ : Nat)  : adrOf t_ (.nilsl) = .nilsl := (rfl)
theorem cells_sl (w : Bool) (es : Nat) (rs : List (List AV)) : AV.cells (.sl w es rs) = [.sl w es rs] := (rfl)
theorem okTop_sl (w : Bool) (es : Nat) (rs : List (List AV)) : okTop (.sl w es rs) = true := (rfl)
theorem adrOf_sl (t_ : Nat) (w : Bool) (es : Nat) (rs : List (List AV)) : adrOf t_ (.sl w es rs) = .sl w es rs := (rfl)
theorem cells_rsl (a b c d : Nat) : AV.cells (.rsl a b c d) = [.rsl a b c d] := (rfl)
theorem okTop_rsl (a b c d : Nat) : okTop (.rsl a b c d) = true := (rfl)
theorem adrOf_rsl (t_ : Nat) (a b c d : Nat) : adrOf t_ (.rsl a b c d) = .rsl a b c d := (rfl)
theorem cells_aptr (a b c : Nat) : AV.cells (.aptr a b c) = [.aptr a b c] := (rfl)
theorem okTop_aptr (a b c : Nat) : okTop (.aptr a b c) = true := (rfl)
theorem adrOf_aptr (t_ : Nat) (a b c : Nat) : adrOf t_ (.aptr a b c) = .aptr a b c := (rfl)
theorem placeOf_aptr (a b c : Nat) : placeOf (.aptr a b c) = some (.aptr a b c) := (rfl)
theorem cells_nilmap  : AV.cells (.nilmap) = [.nilmap] := (rfl)
theorem okTop_nilmap  : okTop (.nilmap) = true := (rfl)
theorem adrOf_nilmap (t_ : Nat)  : adrOf t_ (.nilmap) = .nilmap := (rfl)
theorem cells_map (i : Nat) : AV.cells (.map i) = [.map i] := (rfl)
theorem okTop_map (i : Nat) : okTop (.map i) = true := (rfl)
theorem adrOf_map (t_ : Nat) (i : Nat) : adrOf t_ (.map i) = .map i := (rfl)
theorem cells_nilfn  : AV.cells (.nilfn) = [.nilfn] := (rfl)
theorem okTop_nilfn  : okTop (.nilfn) = true := (rfl)
theorem adrOf_nilfn (t_ : Nat)  : adrOf t_ (.nilfn) = .nilfn := (rfl)
theorem cells_fn (g : Fn) (a b : List AV) : AV.cells (.fn g a b) = [.fn g a b] := (rfl)
theorem okTop_fn (g : Fn) (a b : List AV) : okTop (.fn g a b) = true := (rfl)
theorem adrOf_fn (t_ : Nat) (g : Fn) (a b : List AV) : adrOf t_ (.fn g a b) = .fn g a b := (rfl)
theorem cells_yld (i : Nat) : AV.cells (.yld i) = [.yld i] := (rfl)
theorem okTop_yld (i : Nat) : okTop (.yld i) = true := (rfl)
theorem adrOf_yld (t_ : Nat) (i : Nat) : adrOf t_ (.yld i) = .yld i := (rfl)
theorem placeOf_yld (i : Nat) : placeOf (.yld i) = some (.yld i) := (rfl)
theorem cells_niliface  : AV.cells (.niliface) = [.niliface] := (rfl)
theorem okTop_niliface  : okTop (.niliface) = true := (rfl)
theorem adrOf_niliface (t_ : Nat)  : adrOf t_ (.niliface) = .niliface := (rfl)
theorem cells_iface (t : TypeId) (v : AV) : AV.cells (.iface t v) = [.iface t v] := (rfl)
theorem okTop_iface (t : TypeId) (v : AV) : okTop (.iface t v) = true := (rfl)
theorem adrOf_iface (t_ : Nat) (t : TypeId) (v : AV) : adrOf t_ (.iface t v) = .iface t v := (rfl)
theorem cells_agg (cs : List AV) : AV.cells (.agg cs) = cs := (rfl)
theorem okTop_agg (cs : List AV) : okTop (.agg cs) = true := (rfl)
theorem adrOf_agg (t_ : Nat) (cs : List AV) : adrOf t_ (.agg cs) = .agg cs := (rfl)
theorem cells_tup (vs : List AV) : AV.cells (.tup vs) = [.tup vs] := (rfl)
theorem okTop_tup (vs : List AV) : okTop (.tup vs) = false := (rfl)
theorem adrOf_tup (t_ : Nat) (vs : List AV) : adrOf t_ (.tup vs) = .tup vs := (rfl)
theorem extK_tup (vs : List AV) (i : Nat) : extK (.tup vs) i = vs[i]? := (rfl)
theorem panK_iface (t : TypeId) (v : AV) (st : St) : panK (.iface t v) st = some (.pan [⟨.iface t v, false⟩] st) := (rfl)
theorem noLp_strip0 (v : AV) : v.strip0.noLp = v.strip0 := by cases v <;> rfl
theorem noLp_strip1 (v : AV) : v.strip1.noLp = v.strip1 := by cases v <;> rfl
theorem noLp_strip (v : AV) : v.strip.noLp = v.strip := by cases v <;> rfl
theorem noLp_clr (v : AV) : v.clr.noLp = v.clr := by cases v <;> rfl
theorem clr_strip (v : AV) : v.strip.clr = v.strip := by cases v <;> rfl
theorem ofConst_bool (b : Bool) : AV.ofConst (.bool b) = .bool b := (rfl)
theorem ofConst_int (k : IntKind) (n : Int) : AV.ofConst (.int k n) = .int k n := (rfl)
theorem ofConst_string (s : ByteArray) : AV.ofConst (.string s) = .str s.data.toList := (rfl)
theorem ofConst_nilptr : AV.ofConst (.pointer none) = .nilptr := (rfl)
theorem ofConst_nilsl : AV.ofConst (.slice none 0 0) = .nilsl := (rfl)
theorem ofConst_nilmap : AV.ofConst (.map none) = .nilmap := (rfl)
theorem ofConst_nilfn : AV.ofConst .nilFunc = .nilfn := (rfl)
theorem ofConst_nilif : AV.ofConst .nilIface = .niliface := (rfl)
theorem leftA_move {d : Option Tmp} {ty : TypeId} {po : String} {af : Array Edge} {g : Option (Nat × Bool)} (x : Operand) (v : AV) : leftA ⟨d, .move x, ty, po, af, g⟩ v = v.noLp := (rfl)
theorem isPlaceOp_move {d : Option Tmp} {ty : TypeId} {po : String} {af : Array Edge} {g : Option (Nat × Bool)} (x : Operand) : isPlaceOp ⟨d, .move x, ty, po, af, g⟩ = none := (rfl)
theorem leftA_assign {d : Option Tmp} {ty : TypeId} {po : String} {af : Array Edge} {g : Option (Nat × Bool)} (x : Operand) (v : AV) : leftA ⟨d, .assign x, ty, po, af, g⟩ v = v.noLp := (rfl)
theorem isPlaceOp_assign {d : Option Tmp} {ty : TypeId} {po : String} {af : Array Edge} {g : Option (Nat × Bool)} (x : Operand) : isPlaceOp ⟨d, .assign x, ty, po, af, g⟩ = none := (rfl)
theorem leftA_pick {d : Option Tmp} {ty : TypeId} {po : String} {af : Array Edge} {g : Option (Nat × Bool)} (a b c : Operand) (v : AV) : leftA ⟨d, .pick a b c, ty, po, af, g⟩ v = v.noLp := (rfl)
theorem isPlaceOp_pick {d : Option Tmp} {ty : TypeId} {po : String} {af : Array Edge} {g : Option (Nat × Bool)} (a b c : Operand) : isPlaceOp ⟨d, .pick a b c, ty, po, af, g⟩ = none := (rfl)
theorem leftA_alloc {d : Option Tmp} {ty : TypeId} {po : String} {af : Array Edge} {g : Option (Nat × Bool)} (t : TypeId) (v : AV) : leftA ⟨d, .alloc t, ty, po, af, g⟩ v = v.noLp := (rfl)
theorem isPlaceOp_alloc {d : Option Tmp} {ty : TypeId} {po : String} {af : Array Edge} {g : Option (Nat × Bool)} (t : TypeId) : isPlaceOp ⟨d, .alloc t, ty, po, af, g⟩ = none := (rfl)
theorem leftA_box {d : Option Tmp} {ty : TypeId} {po : String} {af : Array Edge} {g : Option (Nat × Bool)} (t : TypeId) (x : Operand) (v : AV) : leftA ⟨d, .box t x, ty, po, af, g⟩ v = v.noLp := (rfl)
theorem isPlaceOp_box {d : Option Tmp} {ty : TypeId} {po : String} {af : Array Edge} {g : Option (Nat × Bool)} (t : TypeId) (x : Operand) : isPlaceOp ⟨d, .box t x, ty, po, af, g⟩ = none := (rfl)
theorem leftA_build {d : Option Tmp} {ty : TypeId} {po : String} {af : Array Edge} {g : Option (Nat × Bool)} (t : TypeId) (ps : Array (Nat × Operand)) (v : AV) : leftA ⟨d, .build t ps, ty, po, af, g⟩ v = v.noLp := (rfl)
theorem isPlaceOp_build {d : Option Tmp} {ty : TypeId} {po : String} {af : Array Edge} {g : Option (Nat × Bool)} (t : TypeId) (ps : Array (Nat × Operand)) : isPlaceOp ⟨d, .build t ps, ty, po, af, g⟩ = none := (rfl)
theorem leftA_buildSlice {d : Option Tmp} {ty : TypeId} {po : String} {af : Array Edge} {g : Option (Nat × Bool)} (t : TypeId) (n : Nat) (ps : Array (Nat × Operand)) (v : AV) : leftA ⟨d, .buildSlice t n ps, ty, po, af, g⟩ v = v.noLp := (rfl)
theorem isPlaceOp_buildSlice {d : Option Tmp} {ty : TypeId} {po : String} {af : Array Edge} {g : Option (Nat × Bool)} (t : TypeId) (n : Nat) (ps : Array (Nat × Operand)) : isPlaceOp ⟨d, .buildSlice t n ps, ty, po, af, g⟩ = none := (rfl)
theorem leftA_load {d : Option Tmp} {ty : TypeId} {po : String} {af : Array Edge} {g : Option (Nat × Bool)} (t : TypeId) (a : Operand) (v : AV) : leftA ⟨d, .load t a, ty, po, af, g⟩ v = v.noLp := (rfl)
theorem isPlaceOp_load {d : Option Tmp} {ty : TypeId} {po : String} {af : Array Edge} {g : Option (Nat × Bool)} (t : TypeId) (a : Operand) : isPlaceOp ⟨d, .load t a, ty, po, af, g⟩ = none := (rfl)
theorem leftA_store {d : Option Tmp} {ty : TypeId} {po : String} {af : Array Edge} {g : Option (Nat × Bool)} (t : TypeId) (a x : Operand) (v : AV) : leftA ⟨d, .store t a x, ty, po, af, g⟩ v = v.noLp := (rfl)
theorem isPlaceOp_store {d : Option Tmp} {ty : TypeId} {po : String} {af : Array Edge} {g : Option (Nat × Bool)} (t : TypeId) (a x : Operand) : isPlaceOp ⟨d, .store t a x, ty, po, af, g⟩ = none := (rfl)
theorem leftA_binOp {d : Option Tmp} {ty : TypeId} {po : String} {af : Array Edge} {g : Option (Nat × Bool)} (op : BinOp) (t : TypeId) (x y : Operand) (yt : TypeId) (v : AV) : leftA ⟨d, .binOp op t x y yt, ty, po, af, g⟩ v = v.noLp := (rfl)
theorem isPlaceOp_binOp {d : Option Tmp} {ty : TypeId} {po : String} {af : Array Edge} {g : Option (Nat × Bool)} (op : BinOp) (t : TypeId) (x y : Operand) (yt : TypeId) : isPlaceOp ⟨d, .binOp op t x y yt, ty, po, af, g⟩ = none := (rfl)
theorem leftA_unOp {d : Option Tmp} {ty : TypeId} {po : String} {af : Array Edge} {g : Option (Nat × Bool)} (op : UnOp) (t : TypeId) (x : Operand) (v : AV) : leftA ⟨d, .unOp op t x, ty, po, af, g⟩ v = v.noLp := (rfl)
theorem isPlaceOp_unOp {d : Option Tmp} {ty : TypeId} {po : String} {af : Array Edge} {g : Option (Nat × Bool)} (op : UnOp) (t : TypeId) (x : Operand) : isPlaceOp ⟨d, .unOp op t x, ty, po, af, g⟩ = none := (rfl)
theorem leftA_convert {d : Option Tmp} {ty : TypeId} {po : String} {af : Array Edge} {g : Option (Nat × Bool)} (a b : TypeId) (x : Operand) (v : AV) : leftA ⟨d, .convert a b x, ty, po, af, g⟩ v = v.noLp := (rfl)
theorem isPlaceOp_convert {d : Option Tmp} {ty : TypeId} {po : String} {af : Array Edge} {g : Option (Nat × Bool)} (a b : TypeId) (x : Operand) : isPlaceOp ⟨d, .convert a b x, ty, po, af, g⟩ = none := (rfl)
theorem leftA_makeInterface {d : Option Tmp} {ty : TypeId} {po : String} {af : Array Edge} {g : Option (Nat × Bool)} (t : TypeId) (x : Operand) (v : AV) : leftA ⟨d, .makeInterface t x, ty, po, af, g⟩ v = v.noLp := (rfl)
theorem isPlaceOp_makeInterface {d : Option Tmp} {ty : TypeId} {po : String} {af : Array Edge} {g : Option (Nat × Bool)} (t : TypeId) (x : Operand) : isPlaceOp ⟨d, .makeInterface t x, ty, po, af, g⟩ = none := (rfl)
theorem leftA_makeFunc {d : Option Tmp} {ty : TypeId} {po : String} {af : Array Edge} {g : Option (Nat × Bool)} (fn : Fn) (a b : Array Operand) (v : AV) : leftA ⟨d, .makeFunc fn a b, ty, po, af, g⟩ v = v.noLp := (rfl)
theorem isPlaceOp_makeFunc {d : Option Tmp} {ty : TypeId} {po : String} {af : Array Edge} {g : Option (Nat × Bool)} (fn : Fn) (a b : Array Operand) : isPlaceOp ⟨d, .makeFunc fn a b, ty, po, af, g⟩ = none := (rfl)
theorem leftA_makeSlice {d : Option Tmp} {ty : TypeId} {po : String} {af : Array Edge} {g : Option (Nat × Bool)} (t : TypeId) (l c : Operand) (v : AV) : leftA ⟨d, .makeSlice t l c, ty, po, af, g⟩ v = v.noLp := (rfl)
theorem isPlaceOp_makeSlice {d : Option Tmp} {ty : TypeId} {po : String} {af : Array Edge} {g : Option (Nat × Bool)} (t : TypeId) (l c : Operand) : isPlaceOp ⟨d, .makeSlice t l c, ty, po, af, g⟩ = none := (rfl)
theorem leftA_slice {d : Option Tmp} {ty : TypeId} {po : String} {af : Array Edge} {g : Option (Nat × Bool)} (t : TypeId) (x : Operand) (lo hi mx : Option Operand) (v : AV) : leftA ⟨d, .slice t x lo hi mx, ty, po, af, g⟩ v = v.noLp := (rfl)
theorem isPlaceOp_slice {d : Option Tmp} {ty : TypeId} {po : String} {af : Array Edge} {g : Option (Nat × Bool)} (t : TypeId) (x : Operand) (lo hi mx : Option Operand) : isPlaceOp ⟨d, .slice t x lo hi mx, ty, po, af, g⟩ = none := (rfl)
theorem leftA_field {d : Option Tmp} {ty : TypeId} {po : String} {af : Array Edge} {g : Option (Nat × Bool)} (t : TypeId) (x : Operand) (i : Nat) (v : AV) : leftA ⟨d, .field t x i, ty, po, af, g⟩ v = v.noLp := (rfl)
theorem isPlaceOp_field {d : Option Tmp} {ty : TypeId} {po : String} {af : Array Edge} {g : Option (Nat × Bool)} (t : TypeId) (x : Operand) (i : Nat) : isPlaceOp ⟨d, .field t x i, ty, po, af, g⟩ = none := (rfl)
theorem leftA_index {d : Option Tmp} {ty : TypeId} {po : String} {af : Array Edge} {g : Option (Nat × Bool)} (t : TypeId) (x i : Operand) (v : AV) : leftA ⟨d, .index t x i, ty, po, af, g⟩ v = v.noLp := (rfl)
theorem isPlaceOp_index {d : Option Tmp} {ty : TypeId} {po : String} {af : Array Edge} {g : Option (Nat × Bool)} (t : TypeId) (x i : Operand) : isPlaceOp ⟨d, .index t x i, ty, po, af, g⟩ = none := (rfl)
theorem leftA_range {d : Option Tmp} {ty : TypeId} {po : String} {af : Array Edge} {g : Option (Nat × Bool)} (t : TypeId) (x : Operand) (v : AV) : leftA ⟨d, .range t x, ty, po, af, g⟩ v = v.noLp := (rfl)
theorem isPlaceOp_range {d : Option Tmp} {ty : TypeId} {po : String} {af : Array Edge} {g : Option (Nat × Bool)} (t : TypeId) (x : Operand) : isPlaceOp ⟨d, .range t x, ty, po, af, g⟩ = none := (rfl)
theorem leftA_next {d : Option Tmp} {ty : TypeId} {po : String} {af : Array Edge} {g : Option (Nat × Bool)} (x : Operand) (b : Bool) (v : AV) : leftA ⟨d, .next x b, ty, po, af, g⟩ v = v.noLp := (rfl)
theorem isPlaceOp_next {d : Option Tmp} {ty : TypeId} {po : String} {af : Array Edge} {g : Option (Nat × Bool)} (x : Operand) (b : Bool) : isPlaceOp ⟨d, .next x b, ty, po, af, g⟩ = none := (rfl)
theorem leftA_typeAssert {d : Option Tmp} {ty : TypeId} {po : String} {af : Array Edge} {g : Option (Nat × Bool)} (x : Operand) (a b : TypeId) (ok : Bool) (v : AV) : leftA ⟨d, .typeAssert x a b ok, ty, po, af, g⟩ v = v.noLp := (rfl)
theorem isPlaceOp_typeAssert {d : Option Tmp} {ty : TypeId} {po : String} {af : Array Edge} {g : Option (Nat × Bool)} (x : Operand) (a b : TypeId) (ok : Bool) : isPlaceOp ⟨d, .typeAssert x a b ok, ty, po, af, g⟩ = none := (rfl)
theorem leftA_extract {d : Option Tmp} {ty : TypeId} {po : String} {af : Array Edge} {g : Option (Nat × Bool)} (x : Operand) (i : Nat) (v : AV) : leftA ⟨d, .extract x i, ty, po, af, g⟩ v = v.noLp := (rfl)
theorem isPlaceOp_extract {d : Option Tmp} {ty : TypeId} {po : String} {af : Array Edge} {g : Option (Nat × Bool)} (x : Operand) (i : Nat) : isPlaceOp ⟨d, .extract x i, ty, po, af, g⟩ = none := (rfl)
theorem leftA_call {d : Option Tmp} {ty : TypeId} {po : String} {af : Array Edge} {g : Option (Nat × Bool)} (c : Call) (v : AV) : leftA ⟨d, .call c, ty, po, af, g⟩ v = v.noLp := (rfl)
theorem isPlaceOp_call {d : Option Tmp} {ty : TypeId} {po : String} {af : Array Edge} {g : Option (Nat × Bool)} (c : Call) : isPlaceOp ⟨d, .call c, ty, po, af, g⟩ = none := (rfl)
theorem leftA_defer {d : Option Tmp} {ty : TypeId} {po : String} {af : Array Edge} {g : Option (Nat × Bool)} (c : Call) (v : AV) : leftA ⟨d, .defer c, ty, po, af, g⟩ v = v.noLp := (rfl)
theorem isPlaceOp_defer {d : Option Tmp} {ty : TypeId} {po : String} {af : Array Edge} {g : Option (Nat × Bool)} (c : Call) : isPlaceOp ⟨d, .defer c, ty, po, af, g⟩ = none := (rfl)
theorem leftA_panic {d : Option Tmp} {ty : TypeId} {po : String} {af : Array Edge} {g : Option (Nat × Bool)} (x : Operand) (v : AV) : leftA ⟨d, .panic x, ty, po, af, g⟩ v = v.noLp := (rfl)
theorem isPlaceOp_panic {d : Option Tmp} {ty : TypeId} {po : String} {af : Array Edge} {g : Option (Nat × Bool)} (x : Operand) : isPlaceOp ⟨d, .panic x, ty, po, af, g⟩ = none := (rfl)
theorem leftA_fieldAddr {d : Tmp} {ty : TypeId} {po : String} {af : Array Edge} {g : Option (Nat × Bool)} (s : TypeId) (x : Operand) (i : Nat) (v : AV) : leftA ⟨some d, .fieldAddr s x i, ty, po, af, g⟩ v = v := (rfl)
theorem isPlaceOp_fieldAddr {d : Option Tmp} {ty : TypeId} {po : String} {af : Array Edge} {g : Option (Nat × Bool)} (s : TypeId) (x : Operand) (i : Nat) : isPlaceOp ⟨d, .fieldAddr s x i, ty, po, af, g⟩ = d := (rfl)
theorem leftA_indexAddr {d : Tmp} {ty : TypeId} {po : String} {af : Array Edge} {g : Option (Nat × Bool)} (s : TypeId) (x i : Operand) (v : AV) : leftA ⟨some d, .indexAddr s x i, ty, po, af, g⟩ v = v := (rfl)
theorem isPlaceOp_indexAddr {d : Option Tmp} {ty : TypeId} {po : String} {af : Array Edge} {g : Option (Nat × Bool)} (s : TypeId) (x i : Operand) : isPlaceOp ⟨d, .indexAddr s x i, ty, po, af, g⟩ = d := (rfl)
theorem leftA_nilCheck {d : Tmp} {ty : TypeId} {po : String} {af : Array Edge} {g : Option (Nat × Bool)} (x : Operand) (v : AV) : leftA ⟨some d, .nilCheck x, ty, po, af, g⟩ v = v := (rfl)
theorem isPlaceOp_nilCheck {d : Option Tmp} {ty : TypeId} {po : String} {af : Array Edge} {g : Option (Nat × Bool)} (x : Operand) : isPlaceOp ⟨d, .nilCheck x, ty, po, af, g⟩ = d := (rfl)
theorem binA_int_add {t : TypeId} {lit : Bool} (k : IntKind) (a b : Int) : binA P .add t lit (.int k a) (.int k b) = some (.int k (k.wrap (a + b))) := by simp only [binA, intBin, if_true]
theorem binA_int_sub {t : TypeId} {lit : Bool} (k : IntKind) (a b : Int) : binA P .sub t lit (.int k a) (.int k b) = some (.int k (k.wrap (a - b))) := by simp only [binA, intBin, if_true]
theorem binA_int_mul {t : TypeId} {lit : Bool} (k : IntKind) (a b : Int) : binA P .mul t lit (.int k a) (.int k b) = some (.int k (k.wrap (a * b))) := by simp only [binA, intBin, if_true]
theorem binA_int_quo {t : TypeId} {lit : Bool} (k : IntKind) (a b : Int) : binA P .quo t lit (.int k a) (.int k b) = if b = 0 then none else some (.int k (k.wrap (a.tdiv b))) := by simp only [binA, intBin, if_true]
theorem binA_int_rem {t : TypeId} {lit : Bool} (k : IntKind) (a b : Int) : binA P .rem t lit (.int k a) (.int k b) = if b = 0 then none else some (.int k (a.tmod b)) := by simp only [binA, intBin, if_true]
theorem binA_int_and {t : TypeId} {lit : Bool} (k : IntKind) (a b : Int) : binA P .and t lit (.int k a) (.int k b) = bitsA .and k a b := by simp only [binA, intBin, if_true]
theorem binA_int_or {t : TypeId} {lit : Bool} (k : IntKind) (a b : Int) : binA P .or t lit (.int k a) (.int k b) = bitsA .or k a b := by simp only [binA, intBin, if_true]
theorem binA_int_xor {t : TypeId} {lit : Bool} (k : IntKind) (a b : Int) : binA P .xor t lit (.int k a) (.int k b) = bitsA .xor k a b := by simp only [binA, intBin, if_true]
theorem binA_int_andNot {t : TypeId} {lit : Bool} (k : IntKind) (a b : Int) : binA P .andNot t lit (.int k a) (.int k b) = bitsA .andNot k a b := by simp only [binA, intBin, if_true]
theorem binA_int_eql {t : TypeId} {lit : Bool} (k : IntKind) (a b : Int) : binA P .eql t lit (.int k a) (.int k b) = some (.bool (a == b)) := by simp only [binA, intBin, cmpInt, if_true]
theorem binA_int_neq {t : TypeId} {lit : Bool} (k : IntKind) (a b : Int) : binA P .neq t lit (.int k a) (.int k b) = some (.bool (a != b)) := by simp only [binA, intBin, cmpInt, if_true]
theorem binA_int_lss {t : TypeId} {lit : Bool} (k : IntKind) (a b : Int) : binA P .lss t lit (.int k a) (.int k b) = some (.bool (decide (a < b))) := by simp only [binA, intBin, cmpInt, if_true]
theorem binA_int_leq {t : TypeId} {lit : Bool} (k : IntKind) (a b : Int) : binA P .leq t lit (.int k a) (.int k b) = some (.bool (decide (a ≤ b))) := by simp only [binA, intBin, cmpInt, if_true]
theorem binA_int_gtr {t : TypeId} {lit : Bool} (k : IntKind) (a b : Int) : binA P .gtr t lit (.int k a) (.int k b) = some (.bool (decide (a > b))) := by simp only [binA, intBin, cmpInt, if_true]
theorem binA_int_geq {t : TypeId} {lit : Bool} (k : IntKind) (a b : Int) : binA P .geq t lit (.int k a) (.int k b) = some (.bool (decide (a ≥ b))) := by simp only [binA, intBin, cmpInt, if_true]
theorem binA_int_shl {t : TypeId} {lit : Bool} (k j : IntKind) (a b : Int) : binA P .shl t lit (.int k a) (.int j b) = if b < 0 then none else some (.int k (k.wrap (a * 2 ^ (min b.toNat k.bits)))) := (rfl)
theorem binA_int_shr {t : TypeId} {lit : Bool} (k j : IntKind) (a b : Int) : binA P .shr t lit (.int k a) (.int j b) = if b < 0 then none else some (.int k (a.fdiv (2 ^ (min b.toNat k.bits)))) := (rfl)
theorem binA_str_add {t : TypeId} {lit : Bool} (x y : List UInt8) : binA P .add t lit (.str x) (.str y) = if x.length + y.length < 4611686018427387904 then some (.str (x ++ y)) else none := (rfl)
theorem binA_str_eql {t : TypeId} {lit : Bool} (x y : List UInt8) : binA P .eql t lit (.str x) (.str y) = some (.bool (x == y)) := (rfl)
theorem binA_str_neq {t : TypeId} {lit : Bool} (x y : List UInt8) : binA P .neq t lit (.str x) (.str y) = some (.bool !(x == y)) := (rfl)
theorem binA_str_lss {t : TypeId} {lit : Bool} (x y : List UInt8) : binA P .lss t lit (.str x) (.str y) = some (.bool (Op.bytesLess x y)) := (rfl)
theorem binA_str_leq {t : TypeId} {lit : Bool} (x y : List UInt8) : binA P .leq t lit (.str x) (.str y) = some (.bool (Op.bytesLess x y || x == y)) := (rfl)
theorem binA_str_gtr {t : TypeId} {lit : Bool} (x y : List UInt8) : binA P .gtr t lit (.str x) (.str y) = some (.bool !(Op.bytesLess x y || x == y)) := (rfl)
theorem binA_str_geq {t : TypeId} {lit : Bool} (x y : List UInt8) : binA P .geq t lit (.str x) (.str y) = some (.bool !(Op.bytesLess x y)) := (rfl)
theorem unA_not (b : Bool) : unA .not (.bool b) = some (.bool !b) := (rfl)
theorem unA_neg (k : IntKind) (n : Int) : unA .neg (.int k n) = some (.int k (k.wrap (0 - n))) := (rfl)
theorem loadA_fptr (S : Sto) (env : List AV) (t : TypeId) (cs : List AV) : loadA P S env t (.fptr cs) = valAt P t cs := (rfl)
def boxOf : AV → Option (List AV)
 | .box cs => some cs
 | _ => none
theorem boxOf_box (cs : List AV) : boxOf (.box cs) = some cs := (rfl)
theorem loadA_lptr (S : Sto) (env : List AV) (t : TypeId) (s off : Nat) : loadA P S env t (.lptr s off) = oB (boxOf (getT env s)) fun cs => valAt P t ((cs.drop off).map AV.strip0) := by
 simp only [loadA, getT_eq]
 cases getT env s <;> rfl
def cellsOf : Option Obj → Option (List AV)
 | some (.cells cs) => some cs
 | _ => none
theorem cellsOf_some (cs : List AV) : cellsOf (some (.cells cs)) = some cs := (rfl)
theorem loadA_ptr (S : Sto) (env : List AV) (t : TypeId) (id off : Nat) : loadA P S env t (.ptr id off) = oB (cellsOf (S.get id)) fun cs => valAt P t ((cs.drop off).map AV.strip0) := by
 simp only [loadA]
 cases S.get id with
 | none => rfl
 | some o => cases o <;> rfl
theorem loadS_plain {d : Tmp} {t : TypeId} {a : AV} {st : St} (h : pol.take f d = false) : loadS P pol f (some d) t a st = oB (loadA P st.S st.env t a) fun v => some (.val v st) := by
 simp only [loadS, h, Bool.false_eq_true, if_false, oB]
 cases loadA P st.S st.env t a <;> rfl
theorem loadS_take_ptr {d : Tmp} {t : TypeId} {id off : Nat} {st : St} (h : pol.take f d = true) : loadS P pol f (some d) t (.ptr id off) st =
  oB (cellsOf (st.S.get id)) fun cs => oB (takeCells P t off cs) fun r => some (.val r.1 { st with S := st.S.put id (.cells r.2) }) := by
 simp only [loadS, h, if_true, oB]
 cases st.S.get id with
 | none => rfl
 | some o =>
  cases o <;> try rfl
  rename_i cs
  simp only [cellsOf]
  cases takeCells P t off cs <;> rfl
theorem loadS_take_lptr {d : Tmp} {t : TypeId} {s off : Nat} {st : St} (h : pol.take f d = true) (hne : ¬ s = d) : loadS P pol f (some d) t (.lptr s off) st =
  oB (boxOf (getT st.env s)) fun cs => oB (takeCells P t off cs) fun r => some (.val r.1 { st with env := setT st.env s (.box r.2) }) := by
 simp only [loadS, h, if_true, oB, getT_eq, setT_eq]
 cases getT st.env s <;> try rfl
 rename_i cs
 simp only [boxOf, if_neg hne]
 cases takeCells P t off cs <;> rfl
theorem storeS_ptr {t : TypeId} {id off : Nat} {v : AV} {st : St} : storeS P t (.ptr id off) v st = oB (cellsOf (st.S.get id)) fun cs => oB (writeCells P t off cs v) fun cs' => some (.val .undef { st with S := st.S.put id (.cells cs') }) := by
 simp only [storeS, oB]
 cases st.S.get id with
 | none => rfl
 | some o =>
  cases o <;> try rfl
  rename_i cs
  simp only [cellsOf]
  cases writeCells P t off cs v <;> rfl
theorem storeS_lptr {t : TypeId} {s off : Nat} {v : AV} {st : St} : storeS P t (.lptr s off) v st = oB (boxOf (getT st.env s)) fun cs => oB (writeCells P t off cs v) fun cs' => some (.val .undef { st with env := setT st.env s (.box cs') }) := by
 simp only [storeS, oB, getT_eq, setT_eq]
 cases getT st.env s <;> try rfl
 rename_i cs
 simp only [boxOf]
 cases writeCells P t off cs v <;> rfl
theorem newVarA_loc {d : Tmp} {cs : List AV} {st : St} (h : pol.loc f d = true) : newVarA pol f pl (some d) cs st = bif noPlaceIn st.env d pl then some (.val (.box cs) st) else none := by
 simp only [newVarA, h, if_true]
 cases noPlaceIn st.env d pl <;> rfl
theorem newVarA_sto {d : Tmp} {cs : List AV} {st : St} (h : pol.loc f d = false) : newVarA pol f pl (some d) cs st = some (.val (.ptr st.S.next 0) { st with S := st.S.new (.cells cs) }) := by
 simp only [newVarA, h, Bool.false_eq_true, if_false]
def lpAt (s : Nat) : AV → Bool
 | .lptr s' _ => !(s' == s)
 | _ => true
theorem noPlace_nil (env : List AV) (s : Tmp) : noPlaceIn env s [] = true := (rfl)
theorem noPlace_cons (env : List AV) (s t : Tmp) (ts : List Tmp) : noPlaceIn env s (t :: ts) = (lpAt s (getT env t) && noPlaceIn env s ts) := by
 simp only [noPlaceIn, getT_eq]
 congr 1
theorem calleeA_func (args : List AV) (g : FuncId) (first cap : List AV) : calleeA args (.fn (.func g) first cap) = some (.func g, first ++ args ++ cap) := (rfl)
theorem calleeA_yld (args : List AV) (id : Nat) : calleeA args (.yld id) = some (.yield id, args) := (rfl)
theorem argsA_nil (env : List AV) : argsA env [] = [] := (rfl)
theorem fieldAddrA_of {s : TypeId} {a : AV} {i : Nat} {fl : Field} (h : fieldOf P s i = some fl) (hz : P.cellsOf fl.type ≠ 0) : fieldAddrA P s a i = addOff a fl.offset := by
 simp only [fieldAddrA, h, if_neg hz]
theorem addOff_ptr (id off n : Nat) : addOff (.ptr id off) n = some (.ptr id (off + n)) := (rfl)
theorem addOff_lptr (s off n : Nat) : addOff (.lptr s off) n = some (.lptr s (off + n)) := (rfl)
theorem addOff_aptr (id r off n : Nat) : addOff (.aptr id r off) n = some (.aptr id r (off + n)) := (rfl)
theorem addOff_fptr (cs : List AV) (n : Nat) : addOff (.fptr cs) n = if n < cs.length then some (.fptr (cs.drop n)) else none := (rfl)
theorem lpAt_unk (s_ : Nat)  : lpAt s_ (.unk) = true := (rfl)
theorem lpAt_bool (s_ : Nat) (b : Bool) : lpAt s_ (.bool b) = true := (rfl)
theorem lpAt_int (s_ : Nat) (k : IntKind) (n : Int) : lpAt s_ (.int k n) = true := (rfl)
theorem lpAt_str (s_ : Nat) (s : List UInt8) : lpAt s_ (.str s) = true := (rfl)
theorem lpAt_nilptr (s_ : Nat)  : lpAt s_ (.nilptr) = true := (rfl)
theorem lpAt_ptr (s_ : Nat) (i o : Nat) : lpAt s_ (.ptr i o) = true := (rfl)
theorem lpAt_fptr (s_ : Nat) (cs : List AV) : lpAt s_ (.fptr cs) = true := (rfl)
theorem lpAt_box (s_ : Nat) (cs : List AV) : lpAt s_ (.box cs) = true := (rfl)
theorem lpAt_nilsl (s_ : Nat)  : lpAt s_ (.nilsl) = true := (rfl)
theorem lpAt_sl (s_ : Nat) (w : Bool) (es : Nat) (rs : List (List AV)) : lpAt s_ (.sl w es rs) = true := (rfl)
theorem lpAt_rsl (s_ : Nat) (a b c d : Nat) : lpAt s_ (.rsl a b c d) = true := (rfl)
theorem lpAt_aptr (s_ : Nat) (a b c : Nat) : lpAt s_ (.aptr a b c) = true := (rfl)
theorem lpAt_nilmap (s_ : Nat)  : lpAt s_ (.nilmap) = true := (rfl)
theorem lpAt_map (s_ : Nat) (i : Nat) : lpAt s_ (.map i) = true := (rfl)
theorem lpAt_nilfn (s_ : Nat)  : lpAt s_ (.nilfn) = true := (rfl)
theorem lpAt_fn (s_ : Nat) (g : Fn) (a b : List AV) : lpAt s_ (.fn g a b) = true := (rfl)
theorem lpAt_yld (s_ : Nat) (i : Nat) : lpAt s_ (.yld i) = true := (rfl)
theorem lpAt_niliface (s_ : Nat)  : lpAt s_ (.niliface) = true := (rfl)
theorem lpAt_iface (s_ : Nat) (t : TypeId) (v : AV) : lpAt s_ (.iface t v) = true := (rfl)
theorem lpAt_agg (s_ : Nat) (cs : List AV) : lpAt s_ (.agg cs) = true := (rfl)
theorem lpAt_tup (s_ : Nat) (vs : List AV) : lpAt s_ (.tup vs) = true := (rfl)
theorem lpAt_lptr (s_ s o : Nat) : lpAt s_ (.lptr s o) = !(s == s_) := (rfl)
def fineB (P : Program) : Bool :=
 (List.range P.types.size).all (fun t => match P.underlying t with
  | some (.struct fs) => fs.toList.all fun f => (P.info? f.type).isSome
  | some (.array _ e) => (P.info? e).isSome
  | _ => true) && P.funcs.toList.all fun fn => !(fn.body.isSome && fn.name == "runtime.NumGoroutine")
theorem fine_of {P : Program} (h : fineB P = true) : Fine P := by
 simp only [fineB, Bool.and_eq_true, List.all_eq_true] at h
 obtain ⟨h1, h2⟩ := h
 refine ⟨fun t fs ht hu f hf => ?_, fun t n e ht hu => ?_, fun f fn hf hb => ?_⟩
 ·have := h1 t (List.mem_range.2 ht)
  rw [hu] at this
  exact List.all_eq_true.1 this f hf
 ·have := h1 t (List.mem_range.2 ht)
  rw [hu] at this
  exact this
 ·have := h2 fn (List.mem_of_getElem? (by rw [Array.getElem?_toList]; exact hf))
  simpa [hb] using this
def AEnd.isTrue : AEnd → Bool
 | .ret (.bool true) => true
 | _ => false
theorem fieldAddrA_at {s : TypeId} {i off k : Nat} (h : (fieldOf P s i).map (fun f => (f.offset, P.cellsOf f.type)) = some (off, k + 1)) (a : AV) : fieldAddrA P s a i = addOff a off := by
 cases hf : fieldOf P s i with
 | none => rw [hf] at h; cases h
 | some fl =>
  rw [hf] at h
  simp only [Option.map_some, Option.some.injEq, Prod.mk.injEq] at h
  simp only [fieldAddrA, hf, if_neg (show ¬ P.cellsOf fl.type = 0 by omega), h.1]
theorem fieldA_at {t ft : TypeId} {i off : Nat} (h : (fieldOf P t i).map (fun f => (f.offset, f.type)) = some (off, ft)) (cs : List AV) : fieldA P t (.agg cs) i = valAt P ft (cs.drop off) := by
 cases hf : fieldOf P t i with
 | none => rw [hf] at h; cases h
 | some fl =>
  rw [hf] at h
  simp only [Option.map_some, Option.some.injEq, Prod.mk.injEq] at h
  simp only [fieldA, hf, h.1, h.2]
theorem valAt_one {t : TypeId} (h1 : (P.underlying t).isSome = true) (h2 : aggT P t = false) (cs : List AV) : valAt P t cs = cs.head? := by
 unfold valAt
 unfold aggT at h2
 cases hu : P.underlying t with
 | none => rw [hu] at h1; cases h1
 | some d => rw [hu] at h2; cases d <;> first | rfl | cases h2
theorem valAt_agg {t : TypeId} (h2 : aggT P t = true) (cs : List AV) : valAt P t cs = if P.cellsOf t ≤ cs.length then some (.agg (cs.take (P.cellsOf t))) else none := by
 unfold valAt
 unfold aggT at h2
 cases hu : P.underlying t with
 | none => rw [hu] at h2; cases h2
 | some d => rw [hu] at h2; cases d <;> first | rfl | cases h2
attribute [simp] oB_some oB_none bindN_normal bindN_ret bindN_exit bindN_goto bindN_pan blkK_normal blkK_ret blkK_pan blkK_exit masked_none frzSt_nil bK_true bK_false gK_tt gK_ff gK_tf gK_ft gK_un gK_un' rK_val rK_pan rK_call cK_ret cK_pan
attribute [simp] ev_skip ev_label ev_seq ev_cond ev_block ev_exit ev_goto ev_ret ev_regionL ev_loop ev_draw wantedL_none wantedL_some gT_some evL_nil evL_cons dstAt_zero dstAt_succ opAt_zero opAt_succ
attribute [simp] opA_move opA_assign opA_pick opA_build opA_nilCheck opA_binOp opA_unOp opA_makeInterface opA_makeFunc opA_slice opA_fieldAddr opA_field opA_indexAddr opA_index opA_typeAssert opA_extract opA_min opA_max opA_alloc opA_box opA_load opA_store opA_len
 opA_recover opA_callv opA_defer opA_panic opA_append opA_makeSlice opA_buildSlice opA_convert
attribute [simp] getT_zero getT_succ setT_zero setT_succ opd_tmp opd_const opd_func opt_tmp opt_const opt_func adrT_tmp adr_const stripAt_nil stripAt_cons wipe_nil wipe_cons puts_some puts_none tmpsOf_nil tmpsOf_tmp tmpsOf_const tmpsOf_func
attribute [simp] strip0_unk strip0_bool strip0_int strip0_str strip0_nilptr strip0_ptr strip0_fptr strip0_box strip0_lptr strip0_nilsl strip0_sl strip0_rsl
attribute [simp] strip0_aptr strip0_nilmap strip0_map strip0_nilfn strip0_fn strip0_yld strip0_niliface strip0_iface strip0_agg strip0_tup strip1_unk strip1_bool
attribute [simp] strip1_int strip1_str strip1_nilptr strip1_ptr strip1_fptr strip1_box strip1_lptr strip1_nilsl strip1_sl strip1_rsl strip1_aptr strip1_nilmap
attribute [simp] strip1_map strip1_nilfn strip1_fn strip1_yld strip1_niliface strip1_iface strip1_agg strip1_tup strip_unk strip_bool strip_int strip_str
attribute [simp] strip_nilptr strip_ptr strip_fptr strip_box strip_lptr strip_nilsl strip_sl strip_rsl strip_aptr strip_nilmap strip_map strip_nilfn
attribute [simp] strip_fn strip_yld strip_niliface strip_iface strip_agg strip_tup strip_undef clr_unk clr_bool clr_int clr_str clr_nilptr
attribute [simp] clr_ptr clr_fptr clr_box clr_lptr clr_nilsl clr_sl clr_rsl clr_aptr clr_nilmap clr_map clr_nilfn clr_fn
attribute [simp] clr_yld clr_niliface clr_iface clr_agg clr_tup clr_undef noLp_unk noLp_bool noLp_int noLp_str noLp_nilptr noLp_ptr
attribute [simp] noLp_fptr noLp_box noLp_lptr noLp_nilsl noLp_sl noLp_rsl noLp_aptr noLp_nilmap noLp_map noLp_nilfn noLp_fn noLp_yld
attribute [simp] noLp_niliface noLp_iface noLp_agg noLp_tup noLp_undef cells_unk okTop_unk adrOf_unk cells_bool okTop_bool adrOf_bool cells_int
attribute [simp] okTop_int adrOf_int cells_str okTop_str adrOf_str cells_nilptr okTop_nilptr adrOf_nilptr cells_ptr okTop_ptr adrOf_ptr placeOf_ptr
attribute [simp] cells_fptr okTop_fptr adrOf_fptr placeOf_fptr cells_box okTop_box adrOf_box cells_lptr okTop_lptr adrOf_lptr placeOf_lptr cells_nilsl
attribute [simp] okTop_nilsl adrOf_nilsl cells_sl okTop_sl adrOf_sl cells_rsl okTop_rsl adrOf_rsl cells_aptr okTop_aptr adrOf_aptr placeOf_aptr
attribute [simp] cells_nilmap okTop_nilmap adrOf_nilmap cells_map okTop_map adrOf_map cells_nilfn okTop_nilfn adrOf_nilfn cells_fn okTop_fn adrOf_fn
attribute [simp] cells_yld okTop_yld adrOf_yld placeOf_yld cells_niliface okTop_niliface adrOf_niliface cells_iface okTop_iface adrOf_iface cells_agg okTop_agg
attribute [simp] adrOf_agg cells_tup okTop_tup adrOf_tup extK_tup panK_iface noLp_strip0 noLp_strip1 noLp_strip noLp_clr clr_strip strip_idem
attribute [simp] ofConst_bool ofConst_int ofConst_string ofConst_nilptr ofConst_nilsl ofConst_nilmap ofConst_nilfn ofConst_nilif leftA_move isPlaceOp_move leftA_assign isPlaceOp_assign
attribute [simp] leftA_pick isPlaceOp_pick leftA_alloc isPlaceOp_alloc leftA_box isPlaceOp_box leftA_build isPlaceOp_build leftA_buildSlice isPlaceOp_buildSlice leftA_load isPlaceOp_load
attribute [simp] leftA_store isPlaceOp_store leftA_binOp isPlaceOp_binOp leftA_unOp isPlaceOp_unOp leftA_convert isPlaceOp_convert leftA_makeInterface isPlaceOp_makeInterface leftA_makeFunc isPlaceOp_makeFunc
attribute [simp] leftA_makeSlice isPlaceOp_makeSlice leftA_slice isPlaceOp_slice leftA_field isPlaceOp_field leftA_index isPlaceOp_index leftA_range isPlaceOp_range leftA_next isPlaceOp_next
attribute [simp] leftA_typeAssert isPlaceOp_typeAssert leftA_extract isPlaceOp_extract leftA_call isPlaceOp_call leftA_defer isPlaceOp_defer leftA_panic isPlaceOp_panic leftA_fieldAddr isPlaceOp_fieldAddr
attribute [simp] leftA_indexAddr isPlaceOp_indexAddr leftA_nilCheck isPlaceOp_nilCheck binA_int_add binA_int_sub binA_int_mul binA_int_quo binA_int_rem binA_int_and binA_int_or binA_int_xor
attribute [simp] binA_int_andNot binA_int_eql binA_int_neq binA_int_lss binA_int_leq binA_int_gtr binA_int_geq binA_int_shl binA_int_shr binA_str_add binA_str_eql binA_str_neq
attribute [simp] binA_str_lss binA_str_leq binA_str_gtr binA_str_geq lpAt_unk lpAt_bool lpAt_int lpAt_str lpAt_nilptr lpAt_ptr lpAt_fptr lpAt_box
attribute [simp] lpAt_nilsl lpAt_sl lpAt_rsl lpAt_aptr lpAt_nilmap lpAt_map lpAt_nilfn lpAt_fn lpAt_yld lpAt_niliface lpAt_iface lpAt_agg
attribute [simp] lpAt_tup lpAt_lptr unA_not unA_neg loadA_fptr boxOf_box loadA_lptr cellsOf_some loadA_ptr storeS_ptr storeS_lptr noPlace_nil
attribute [simp] noPlace_cons calleeA_func calleeA_yld argsA_nil addOff_ptr addOff_lptr addOff_aptr addOff_fptr
attribute [simp] loadS_plain loadS_take_ptr loadS_take_lptr newVarA_loc newVarA_sto
attribute [simp] consO_none consO_some plL_nil plL_cons
end Go.Ab
namespace Go.Ab
variable {P : Program} {H : Handler} {pol : Pol} {f : FuncId} {N : Nat} {round : Option Nat}
def endK (P : Program) (pol : Pol) (f : FuncId) (rs : List ResultVar) (st : St) (r : Option (AMode × Sto)) : Option (AEnd × AMode × Sto) := match r with
 | some (.returning, S') => match resultsA P (pol.frz f) rs st.env S' with
  | some (vs, S'') => some (.ret (oneOf vs), st.par, freeAt st.env (pol.frees f) S'')
  | none => none
 | some (.panicking ch, S') => some (.pan ch, st.par, freeAt st.env (pol.frees f) S')
 | _ => none
def finK (P : Program) (H : Handler) (pol : Pol) (f : FuncId) (rs : List ResultVar) (r : Option (AExit × St)) : Option (AEnd × AMode × Sto) := match r with
 | some (.normal, st) | some (.ret, st) => endK P pol f rs st (unwindA H st.defs .returning st.S)
 | some (.pan ch, st) => endK P pol f rs st (unwindA H st.defs (.panicking ch) st.S)
 | _ => none
@[congr] theorem finK_congr {rs : List ResultVar} {r r' : Option (AExit × St)} (h : r = r') : finK P H pol f rs r = finK P H pol f rs r' := by rw [h]
@[congr] theorem endK_congr {rs : List ResultVar} {st : St} {r r' : Option (AMode × Sto)} (h : r = r') : endK P pol f rs st r = endK P pol f rs st r' := by rw [h]
theorem runFn_eq {fn : Func} {c : Code} {par : AMode} {args : List AV} {S : Sto} (h1 : P.funcs[f]? = some fn) (h2 : fn.body = some c) :
  runFn P H N pol f par args S = finK P H pol f fn.results.toList (evCode P H N pol f none c { env := args ++ List.replicate (fn.ntmps - args.length) .undef, defs := [], par, S }) := by
 unfold runFn
 simp only [h1, h2]
 unfold finK endK
 cases evCode P H N pol f none c { env := args ++ List.replicate (fn.ntmps - args.length) .undef, defs := [], par, S } with
 | none => rfl
 | some xs => obtain ⟨x, st⟩ := xs; cases x <;> rfl
theorem finK_normal {rs : List ResultVar} {st : St} : finK P H pol f rs (some (.normal, st)) = endK P pol f rs st (unwindA H st.defs .returning st.S) := (rfl)
theorem finK_ret {rs : List ResultVar} {st : St} : finK P H pol f rs (some (.ret, st)) = endK P pol f rs st (unwindA H st.defs .returning st.S) := (rfl)
theorem finK_pan {rs : List ResultVar} {st : St} {ch : List APan} : finK P H pol f rs (some (.pan ch, st)) = endK P pol f rs st (unwindA H st.defs (.panicking ch) st.S) := (rfl)
theorem unwind_nil (m : AMode) (S : Sto) : unwindA H [] m S = some (m, S) := (rfl)
theorem endK_ret {rs : List ResultVar} {st : St} {S : Sto} : endK P pol f rs st (some (.returning, S)) = oB (resultsA P (pol.frz f) rs st.env S) fun r => some (.ret (oneOf r.1), st.par, freeAt st.env (pol.frees f) r.2) := by
 simp only [endK, oB]
 cases resultsA P (pol.frz f) rs st.env S <;> rfl
theorem endK_pan {rs : List ResultVar} {st : St} {S : Sto} {ch : List APan} : endK P pol f rs st (some (.panicking ch, S)) = some (.pan ch, st.par, freeAt st.env (pol.frees f) S) := (rfl)
theorem resultsA_nil (fz : Bool) (env : List AV) (S : Sto) : resultsA P fz [] env S = some ([], S) := (rfl)
theorem frzV_no (S : Sto) (v : AV) : frzV false S v = (v, S) := by cases v <;> rfl
theorem frzV_agg (S : Sto) (cs : List AV) : frzV true S (.agg cs) = (.agg (frzCells S cs).1, (frzCells S cs).2) := (rfl)
theorem frzV_rsl (S : Sto) (a b c d : Nat) : frzV true S (.rsl a b c d) = frzA true S (.rsl a b c d) := (rfl)
theorem frzV_int (S : Sto) (k : IntKind) (x : Int) : frzV true S (.int k x) = (.int k x, S) := (rfl)
theorem frzV_nil (S : Sto) : frzV true S .nilsl = (.nilsl, S) := (rfl)
theorem frzCells_nil (S : Sto) : frzCells S [] = ([], S) := (rfl)
theorem frzCells_cons (S : Sto) (v : AV) (vs : List AV) : frzCells S (v :: vs) = ((frzA true S v).1 :: (frzCells (frzA true S v).2 vs).1, (frzCells (frzA true S v).2 vs).2) := (rfl)
theorem frzA_int (S : Sto) (k : IntKind) (x : Int) : frzA true S (.int k x) = (.int k x, S) := (rfl)
theorem frzA_bool (S : Sto) (x : Bool) : frzA true S (.bool x) = (.bool x, S) := (rfl)
theorem frzA_str (S : Sto) (x : List UInt8) : frzA true S (.str x) = (.str x, S) := (rfl)
theorem frzA_sl (S : Sto) (o : Bool) (es : Nat) (rows : List (List AV)) : frzA true S (.sl o es rows) = (.sl o es rows, S) := (rfl)
theorem frzA_no (S : Sto) (v : AV) : frzA false S v = (v, S) := (rfl)
theorem frzA_nil (fz : Bool) (S : Sto) : frzA fz S .nilsl = (.nilsl, S) := by cases fz <;> rfl
theorem frzA_arr {S : Sto} {id es : Nat} {rows : List (List AV)} (h : S.get id = some (.arr es rows)) : frzA true S (.rsl id es 0 rows.length) = (.sl false es rows, S.drop id) := by
 simp [frzA, h]
theorem resultsA_tmp (fz : Bool) (t : Tmp) (rs : List ResultVar) (env : List AV) (S : Sto) : resultsA P fz (.tmp t :: rs) env S = oB (resultsA P fz rs (setT env t (getT env t).strip) (frzV fz S (getT env t).clr).2) fun r => some ((frzV fz S (getT env t).clr).1 :: r.1, r.2) := by
 simp only [resultsA, resultA, opt_tmp, stripAt_cons, stripAt_nil, oB]
 cases resultsA P fz rs (setT env t (getT env t).strip) (frzV fz S (getT env t).clr).2 <;> rfl
def resK (P : Program) (fz : Bool) (t : TypeId) (a : AV) (env : List AV) (S : Sto) : Option (AV × List AV × Sto) := match a with
 | .ptr id off => match S.get id with
  | some (.cells cs) => (takeCells P t off cs).map fun (v, cs') => ((frzV fz (S.put id (.cells cs')) v).1, env, (frzV fz (S.put id (.cells cs')) v).2)
  | _ => none
 | .lptr s off => match env.getD s .undef with
  | .box cs => (takeCells P t off cs).map fun (v, cs') => ((frzV fz S v).1, env.set s (.box cs'), (frzV fz S v).2)
  | _ => none
 | _ => none
theorem resultsA_cell (a : Tmp) (t : TypeId) (fz : Bool) (rs : List ResultVar) (env : List AV) (S : Sto) : resultsA P fz (.cell a t :: rs) env S = oB (resK P fz t (adrOf a (getT env a)) env S) fun q => oB (resultsA P fz rs q.2.1 q.2.2) fun r => some (q.1 :: r.1, r.2) := by
 simp only [resultsA, resultA, adrT_tmp, oB]
 unfold resK
 generalize adrOf a (getT env a) = v
 cases v <;> try rfl
 ·rename_i id off
  simp only
  cases S.get id with
  | none => rfl
  | some o =>
   cases o <;> try rfl
   rename_i cs
   simp only
   cases takeCells P t off cs with
   | none => rfl
   | some q => simp only [Option.map_some]; cases resultsA P fz rs env (frzV fz (S.put id (.cells q.2)) q.1).2 <;> rfl
 ·rename_i s off
  simp only
  cases env.getD s .undef <;> try rfl
  rename_i cs
  simp only
  cases takeCells P t off cs with
  | none => rfl
  | some q => simp only [Option.map_some]; cases resultsA P fz rs (env.set s (.box q.2)) (frzV fz S q.1).2 <;> rfl
theorem resK_ptr (fz : Bool) (t : TypeId) (id off : Nat) (env : List AV) (S : Sto) : resK P fz t (.ptr id off) env S = oB (cellsOf (S.get id)) fun cs => oB (takeCells P t off cs) fun r => some ((frzV fz (S.put id (.cells r.2)) r.1).1, env, (frzV fz (S.put id (.cells r.2)) r.1).2) := by
 simp only [resK, oB]
 cases S.get id with
 | none => rfl
 | some o =>
  cases o <;> try rfl
  rename_i cs
  simp only [cellsOf]
  cases takeCells P t off cs <;> rfl
theorem resK_lptr (fz : Bool) (t : TypeId) (s off : Nat) (env : List AV) (S : Sto) : resK P fz t (.lptr s off) env S = oB (boxOf (getT env s)) fun cs => oB (takeCells P t off cs) fun r => some ((frzV fz S r.1).1, setT env s (.box r.2), (frzV fz S r.1).2) := by
 simp only [resK, oB, getT_eq, setT_eq]
 cases getT env s <;> try rfl
 rename_i cs
 simp only [boxOf]
 cases takeCells P t off cs <;> rfl
theorem oneOf_one (v : AV) : oneOf [v] = v := (rfl)
theorem oneOf_nil : oneOf [] = .undef := (rfl)
theorem oneOf_two (v w : AV) (r : List AV) : oneOf (v :: w :: r) = .tup (v :: w :: r) := (rfl)
theorem freeAt_nil (env : List AV) (S : Sto) : freeAt env [] S = S := (rfl)
def Big (Q : Nat → Prop) : Prop := ∃ n0, ∀ n, n0 ≤ n → Q n
theorem Big.of {Q : Nat → Prop} (h : ∀ n, Q n) : Big Q := ⟨0, fun n _ => h n⟩
theorem Big.mono {Q R : Nat → Prop} (h : Big Q) (hr : ∀ n, Q n → R n) : Big R := let ⟨n0, hq⟩ := h; ⟨n0, fun n hn => hr n (hq n hn)⟩
theorem Big.and {Q R : Nat → Prop} (h : Big Q) (h' : Big R) : Big fun n => Q n ∧ R n :=
 let ⟨n0, hq⟩ := h; let ⟨n1, hr⟩ := h'; ⟨max n0 n1, fun n hn => ⟨hq n (by omega), hr n (by omega)⟩⟩
theorem Big.ge (k : Nat) : Big fun n => k ≤ n := ⟨k, fun _ h => h⟩
theorem Big.succ {Q : Nat → Prop} (h : Big fun n => Q (n + 1)) : Big Q := by
 obtain ⟨n0, hq⟩ := h
 refine ⟨n0 + 1, fun n hn => ?_⟩
 obtain ⟨k, rfl⟩ : ∃ k, n = k + 1 := ⟨n - 1, by omega⟩
 exact hq k (by omega)
theorem Big.all {α : Type} {Q : α → Nat → Prop} : ∀ {l : List α}, (∀ x ∈ l, Big (Q x)) → Big fun n => ∀ x ∈ l, Q x n
 | [], _ => Big.of (fun _ _ h => by cases h)
 | a :: l, h => by
  refine ((h a (by simp)).and (Big.all (l := l) fun x hx => h x (by simp [hx]))).mono fun n ⟨h1, h2⟩ x hx => ?_
  rcases List.mem_cons.1 hx with rfl | hx
  ·exact h1
  ·exact h2 x hx
theorem call_func {n : Nat} {args : List AV} {S : Sto} (hf : pol.free f = false) : (handler P pol (n + 1)).call (.func f) args S = (runFn P (handler P pol n) n pol f .none args S).map fun r => (r.1, r.2.2) := by
 simp only [handler, hf, Bool.false_eq_true, if_false]
theorem call_yield {n id : Nat} {args : List AV} {S : Sto} : (handler P pol (n + 1)).call (.yield id) args S = runYield P (handler P pol n) n pol id args S := (rfl)
theorem big_call {args : List AV} {e : AEnd} {S' : Sto → Sto} {p : AMode} (hf : pol.free f = false) (h : Big fun n => ∀ S, runFn P (handler P pol n) n pol f .none args S = some (e, p, S' S)) :
  Big fun n => ∀ S, (handler P pol n).call (.func f) args S = some (e, S' S) :=
 Big.succ (h.mono fun n hn S => by rw [call_func hf, hn S]; rfl)
theorem big_call' {args : List AV} {e : AEnd} {R : Sto → Prop} {S' : Sto → Sto} {p : AMode} (hf : pol.free f = false) (h : Big fun n => ∀ S, R S → runFn P (handler P pol n) n pol f .none args S = some (e, p, S' S)) :
  Big fun n => ∀ S, R S → (handler P pol n).call (.func f) args S = some (e, S' S) :=
 Big.succ (h.mono fun n hn S hS => by rw [call_func hf, hn S hS]; rfl)
theorem loop_run {keep : Option (List Bool)} {body : St → Option (AExit × St)} (E : Nat → St) : ∀ (m N : Nat) {st : St}, m < N → st.masked keep = E 0 →
  (∀ k, k < m → ∃ st', body (E k) = some (.normal, st') ∧ st'.masked keep = E (k + 1)) →
  loopN keep body N st = (match body (E m) with | some (.normal, st') => loopN keep body (N - m - 1) st' | r => r)
 | 0, N, st, hN, h0, _ => by
  obtain ⟨N', rfl⟩ : ∃ k, N = k + 1 := ⟨N - 1, by omega⟩
  show (match body (st.masked keep) with | some (.normal, st') => loopN keep body N' st' | r => r) = _
  rw [h0]
  rfl
 | m + 1, N, st, hN, h0, hs => by
  obtain ⟨N', rfl⟩ : ∃ k, N = k + 1 := ⟨N - 1, by omega⟩
  obtain ⟨st', h1, h2⟩ := hs 0 (by omega)
  have ih := loop_run (fun k => E (k + 1)) m N' (st := st') (by omega) h2 (fun k hk => hs (k + 1) (by omega))
  have hu : loopN keep body (N' + 1) st = loopN keep body N' st' := by
   show (match body (st.masked keep) with | some (.normal, st') => loopN keep body N' st' | r => r) = _
   rw [h0, h1]
  rw [hu, ih]
  have e : N' + 1 - (m + 1) - 1 = N' - m - 1 := by omega
  rw [e]
theorem loop_end {keep : Option (List Bool)} {body : St → Option (AExit × St)} {N m : Nat} {st : St} {r : Option (AExit × St)} (E : Nat → St) (hN : m < N) (h0 : st.masked keep = E 0)
  (hs : ∀ k, k < m → ∃ st', body (E k) = some (.normal, st') ∧ st'.masked keep = E (k + 1)) (he : body (E m) = r) (hr : ∀ st', r ≠ some (.normal, st')) : loopN keep body N st = r := by
 rw [loop_run E m N hN h0 hs, he]
 cases r with
 | none => rfl
 | some xs =>
  obtain ⟨x, st'⟩ := xs
  cases x <;> first | rfl | exact absurd rfl (hr st')
def stepOK (keep : Option (List Bool)) (r : Option (AExit × St)) (E : St) : Prop := match r with
 | some (.normal, st') => st'.masked keep = E
 | _ => False
@[congr] theorem stepOK_congr {keep : Option (List Bool)} {r r' : Option (AExit × St)} {E : St} (h : r = r') : stepOK keep r E = stepOK keep r' E := by rw [h]
theorem stepOK_normal {keep : Option (List Bool)} {st' E : St} : stepOK keep (some (.normal, st')) E = (st'.masked keep = E) := (rfl)
def contK (r : Option (AExit × St)) (k : St → Option (AExit × St)) : Option (AExit × St) := match r with | some (.normal, st') => k st' | r => r
@[congr] theorem contK_congr {r r' : Option (AExit × St)} {k : St → Option (AExit × St)} (h : r = r') : contK r k = contK r' k := by rw [h]
theorem contK_ret (st : St) (k : St → Option (AExit × St)) : contK (some (.ret, st)) k = some (.ret, st) := (rfl)
theorem contK_exit (i : Nat) (st : St) (k : St → Option (AExit × St)) : contK (some (.exit i, st)) k = some (.exit i, st) := (rfl)
theorem contK_goto (i : Nat) (st : St) (k : St → Option (AExit × St)) : contK (some (.goto i, st)) k = some (.goto i, st) := (rfl)
theorem contK_pan (ch : List APan) (st : St) (k : St → Option (AExit × St)) : contK (some (.pan ch, st)) k = some (.pan ch, st) := (rfl)
theorem loop_go {keep : Option (List Bool)} {body : St → Option (AExit × St)} (E : Nat → St) (m : Nat) {N : Nat} {st : St} (hN : m < N) (h0 : st.masked keep = E 0)
  (hs : ∀ k, k < m → stepOK keep (body (E k)) (E (k + 1))) : loopN keep body N st = contK (body (E m)) fun st' => loopN keep body (N - m - 1) st' := by
 refine loop_run E m N hN h0 fun k hk => ?_
 have := hs k hk
 unfold stepOK at this
 split at this
 ·rename_i st' h; exact ⟨st', h, this⟩
 ·exact this.elim
def envOf : Nat → List (Nat × AV) → List AV
 | n, [] => List.replicate n .unk
 | n, (t, v) :: l => setT (envOf n l) t v
theorem envOf_nil (n : Nat) : envOf n [] = List.replicate n .unk := (rfl)
theorem envOf_cons (n t : Nat) (v : AV) (l : List (Nat × AV)) : envOf n ((t, v) :: l) = setT (envOf n l) t v := (rfl)
theorem call_free {n : Nat} {args : List AV} {S : Sto} {v : AV} {p : AMode} (hf : pol.free f = true) (ha : args ≠ []) (h : ∀ S, runFn P (handler P pol n) n pol f .none args S = some (.ret v, p, S)) :
  (handler P pol (n + 1)).call (.func f) args S = some (.ret v, S) := by
 simp only [handler]
 rw [if_pos hf]
 cases args with
 | nil => exact absurd rfl ha
 | cons a as => simp only [h]
theorem masked_some (st : St) (ks : List Bool) : st.masked (some ks) = { st with env := maskE ks st.env } := (rfl)
theorem maskE_t (ks : List Bool) (v : AV) (vs : List AV) : maskE (true :: ks) (v :: vs) = v :: maskE ks vs := (rfl)
theorem maskE_f (ks : List Bool) (v : AV) (vs : List AV) : maskE (false :: ks) (v :: vs) = .unk :: maskE ks vs := (rfl)
theorem maskE_nil (vs : List AV) : maskE [] vs = vs := by cases vs <;> rfl
theorem maskE_end (ks : List Bool) : maskE ks [] = [] := by cases ks with | nil => rfl | cons k ks => cases k <;> rfl
def sv {X : Type} (own : Bool) (es : Nat) (g : X → List AV) : Option (List X) → AV
 | none => .nilsl
 | some xs => .sl own es (xs.map g)
def ol {X : Type} (o : Option (List X)) : List X := o.getD []
theorem slA_sv {X : Type} (es : Nat) (g : X → List AV) (o : Option (List X)) : slA es g o = sv false es g o := by cases o <;> rfl
section sv
variable {X : Type} {own : Bool} {es : Nat} {g : X → List AV} {o : Option (List X)}
theorem sv_none : sv own es g none = .nilsl := (rfl)
theorem sv_some (xs : List X) : sv own es g (some xs) = .sl own es (xs.map g) := (rfl)
theorem strip_sv : (sv own es g o).strip = sv false es g o := by cases o <;> rfl
theorem strip0_sv : (sv own es g o).strip0 = sv false es g o := by cases o <;> rfl
theorem strip1_sv : (sv own es g o).strip1 = sv false es g o := by cases o <;> rfl
theorem clr_sv : (sv own es g o).clr = sv own es g o := by cases o <;> rfl
theorem noLp_sv : (sv own es g o).noLp = sv own es g o := by cases o <;> rfl
theorem okTop_sv : okTop (sv own es g o) = true := by cases o <;> rfl
theorem cells_sv : (sv own es g o).cells = [sv own es g o] := by cases o <;> rfl
theorem isAgg_sv : isAggV (sv own es g o) = false := by cases o <;> rfl
theorem adrOf_sv (t : Nat) : adrOf t (sv own es g o) = sv own es g o := by cases o <;> rfl
theorem lpAt_sv (s : Nat) : lpAt s (sv own es g o) = true := by cases o <;> rfl
theorem lenA_sv {S : Sto} {t e : TypeId} (ht : P.underlying t = some (.slice e)) : lenA P S t (sv own es g o) = some (.int .i64 (ol o).length) := by
 cases o <;> simp [lenA, ht, sv, ol]
theorem index_sv {t e : TypeId} (ht : P.underlying t = some (.slice e)) (he : P.cellsOf e = es) {i : Nat} (k : IntKind) {x : X} (hx : (ol o)[i]? = some x) : indexAddrA P t (sv own es g o) (.int k i) = some (.fptr (g x)) := by
 cases o with
 | none => simp [ol] at hx
 | some xs =>
  have hlt := (List.getElem?_eq_some_iff.1 hx).1
  have hx' : xs[i]? = some x := hx
  have hlt' : i < xs.length := hlt
  have h0 : (0 : Int) ≤ (i : Int) ∧ (i : Int) < ((List.map g xs).length : Int) ∧ es = P.cellsOf e := ⟨by omega, by simp; omega, he.symm⟩
  simp only [indexAddrA, ht, sv]
  rw [if_pos h0]
  simp [hx']
theorem eqnil_sv {t : TypeId} {lit : Bool} {e : TypeId} (ht : P.underlying t = some (.slice e)) : binA P .eql t lit (sv own es g o) .nilsl = some (.bool o.isNone) := by
 cases o <;> simp [binA, sv, eqA, ht, Op.maxDepth]
end sv
theorem bytes_of (bs : List UInt8) : bytesOf? (bs.map byteRow) = some bs := by
 induction bs with
 | nil => rfl
 | cons b bs ih =>
  simp only [List.map_cons, bytesOf?, byteRow, byteOf?, ih]
  simp
theorem rowsOf_sv {X : Type} {own : Bool} {es : Nat} {g : X → List AV} {o : Option (List X)} : rowsOf es (sv own es g o) = some ((ol o).map g) := by
 cases o <;> simp [rowsOf, sv, ol]
theorem rowsOf_str (s : List UInt8) : rowsOf 1 (.str s) = some (s.map byteRow) := (rfl)
theorem rowsIn_sv {X : Type} {S : Sto} {own : Bool} {es : Nat} {g : X → List AV} {o : Option (List X)} : rowsIn S es (sv own es g o) = some ((ol o).map g) := by
 cases o <;> simp [rowsIn, rowsOf, sv, ol]
theorem more_slice {S : Sto} {e xt : TypeId} {d : TypeDesc} {v : AV} (h : P.underlying xt = some d) (hd : ∀ k, d ≠ .int k) : moreA P S e xt v = rowsIn S (P.cellsOf e) v := by
 unfold moreA
 rw [h]
 cases d <;> first | rfl | exact absurd rfl (hd _)
theorem appInline_own {e : TypeId} {rows more : List (List AV)} (hb : ¬ bigA P e (rows.length + more.length)) : appInline P e (.sl true (P.cellsOf e) rows) more = some (.sl true (P.cellsOf e) (rows ++ more)) := by
 cases more with
 | nil => simp [appInline]
 | cons m ms =>
  simp only [appInline]
  rw [if_neg]
  rintro (h | h | h)
  ·exact h rfl
  ·cases h
  ·exact hb h
theorem app_own {how : Nat} {st xt e : TypeId} {es : Nat} {d : TypeDesc} {rows more : List (List AV)} {v : AV} {s : St} {z : AV} (h1 : P.underlying st = some (.slice e)) (h2 : P.underlying xt = some d) (hd : ∀ k, d ≠ .int k) (hz : zeroA P e = some z) (hzl : z.cells.length = es) (hes : P.cellsOf e = es)
  (hh : how = 1) (hm : rowsIn s.S es v = some more) (hb : ¬ bigA P e (rows.length + more.length)) : appendS P how st xt (.sl true es rows) v s = some (.val (.sl true es (rows ++ more)) s) := by
 subst hes hh
 unfold appendS
 simp only [h1, hz, if_pos hzl]
 rw [if_neg (show ¬ (1 = 0) by decide), more_slice h2 hd, hm]
 simp only [if_neg (show ¬ (1 = 2) by decide), appInline_own hb, Option.map_some]
theorem eql_sl_nil {t e : TypeId} {lit : Bool} {own : Bool} {es : Nat} {rows : List (List AV)} (ht : P.underlying t = some (.slice e)) : binA P .eql t lit (.sl own es rows) .nilsl = some (.bool false) := by simp [binA, eqA, ht, Op.maxDepth]
theorem eql_nil_nil {t e : TypeId} {lit : Bool} (ht : P.underlying t = some (.slice e)) : binA P .eql t lit .nilsl .nilsl = some (.bool true) := by simp [binA, eqA, ht, Op.maxDepth]
attribute [simp] rowsOf_sv rowsIn_sv rowsOf_str eql_sl_nil eql_nil_nil arrK
attribute [simp] stepOK_normal contK_ret contK_exit contK_goto contK_pan envOf_nil envOf_cons ifaceK finK_normal finK_ret finK_pan unwind_nil endK_ret endK_pan resultsA_nil frzA_no frzA_nil frzV_no frzV_agg frzV_rsl frzV_int frzV_nil frzCells_nil frzCells_cons frzA_int frzA_bool frzA_str frzA_sl resultsA_tmp resultsA_cell resK_ptr resK_lptr oneOf_one oneOf_nil oneOf_two freeAt_nil masked_some maskE_t maskE_f maskE_nil maskE_end
attribute [simp] strip_sv strip0_sv strip1_sv clr_sv noLp_sv okTop_sv cells_sv isAgg_sv adrOf_sv lpAt_sv lenA_sv eqnil_sv bytes_of
end Go.Ab
namespace Go.Ab
variable {P : Program} {H : Handler} {pol : Pol} {f : FuncId} {N : Nat} {round : Option Nat}
theorem free_handler (pol : Pol) : ∀ n, (handler P pol n).free = pol.free
 | 0 => rfl
 | _ + 1 => rfl
def drawFull (pol : Pol) (f : FuncId) (id : Nat) (ops : Array Oper) : Bool := match pol.orders f id with
 | l :: ws => drawAll pol.free pol f id ops l ws
 | [] => false
def nbK {α : Type} (v : AV) (x : Option α) : Option α := match v with | .box _ => none | _ => x
@[congr] theorem nbK_congr {α : Type} {v v' : AV} {x : Option α} (h : v = v') : nbK v x = nbK v' x := by rw [h]
def sK {α : Type} (ok : Bool) (S S' : Sto) (x : Option α) : Option α := if ok || sameOld S S' then x else none
@[congr] theorem sK_congr {α : Type} {ok ok' : Bool} {S S' : Sto} {x : Option α} (h : ok = ok') : sK ok S S' x = sK ok' S S' x := by rw [h]
theorem sK_true {α : Type} (S S' : Sto) (x : Option α) : sK true S S' x = x := (rfl)
theorem sK_same {α : Type} {S S' : Sto} (h : sameOld S S' = true) (x : Option α) : sK false S S' x = x := by simp [sK, h]
def fK {α : Type} (q : Option (List Nat)) (env : List AV) (S S' : Sto) (x : Option α) : Option α := match q with
 | none => x
 | some fx => bif sameFix env fx S S' then x else none
@[congr] theorem fK_congr {α : Type} {q q' : Option (List Nat)} {env : List AV} {S S' : Sto} {x : Option α} (h : q = q') : fK q env S S' x = fK q' env S S' x := by rw [h]
theorem fK_none {α : Type} (env : List AV) (S S' : Sto) (x : Option α) : fK none env S S' x = x := (rfl)
theorem fK_same {α : Type} {fx : List Nat} {env : List AV} {S S' : Sto} (h : sameFix env fx S S' = true) (x : Option α) : fK (some fx) env S S' x = x := by simp [fK, h]
def cKD (ok : Bool) (q : Option (List Nat)) (r : Option (AEnd × Sto)) (st : St) (k : AV → St → Option (AExit × St)) : Option (AExit × St) := match r with
 | none => none
 | some (.ret v, S') => nbK v (sK ok st.S S' (fK q st.env st.S S' (k v { st with S := S' })))
 | some (.pan ch, S') => some (.pan ch, { st with S := S' })
@[congr] theorem cKD_congr {ok ok' : Bool} {q q' : Option (List Nat)} {r r' : Option (AEnd × Sto)} {st : St} {k : AV → St → Option (AExit × St)} (ho : ok = ok') (hq : q = q') (h : r = r') : cKD ok q r st k = cKD ok' q' r' st k := by rw [h, ho, hq]
theorem cKD_ret (ok : Bool) (q : Option (List Nat)) (v : AV) (S' : Sto) (st : St) (k : AV → St → Option (AExit × St)) : cKD ok q (some (.ret v, S')) st k = nbK v (sK ok st.S S' (fK q st.env st.S S' (k v { st with S := S' }))) := (rfl)
theorem cKD_pan (ok : Bool) (q : Option (List Nat)) (ch : List APan) (S' : Sto) (st : St) (k : AV → St → Option (AExit × St)) : cKD ok q (some (.pan ch, S')) st k = some (.pan ch, { st with S := S' }) := (rfl)
def rKD (H : Handler) (ok : Bool) (q : Option (List Nat)) (r : OR) (k : AV → St → Option (AExit × St)) : Option (AExit × St) := match r with
 | .val v st' => nbK v (k v st')
 | .pan ch st' => some (.pan ch, st')
 | .call t as st' => cKD ok q (H.call t as st'.S) st' k
@[congr] theorem rKD_congr {ok : Bool} {q : Option (List Nat)} {r r' : OR} {k : AV → St → Option (AExit × St)} (h : r = r') : rKD H ok q r k = rKD H ok q r' k := by rw [h]
theorem rKD_val (ok : Bool) (q : Option (List Nat)) (v : AV) (st : St) (k : AV → St → Option (AExit × St)) : rKD H ok q (.val v st) k = nbK v (k v st) := (rfl)
theorem rKD_pan (ok : Bool) (q : Option (List Nat)) (ch : List APan) (st : St) (k : AV → St → Option (AExit × St)) : rKD H ok q (.pan ch st) k = some (.pan ch, st) := (rfl)
theorem rKD_call (ok : Bool) (q : Option (List Nat)) (t : Tgt) (as : List AV) (st : St) (k : AV → St → Option (AExit × St)) : rKD H ok q (.call t as st) k = cKD ok q (H.call t as st.S) st k := (rfl)
def okD (free : FuncId → Bool) (need : List Nat) (i : Nat) (o : Oper) : Bool := bif need.contains i then freeCall free o else true
def fixD (free : FuncId → Bool) (nf : List Nat × List Nat) (i : Nat) (o : Oper) : Option (List Nat) := bif nf.1.contains i then (bif freeCall free o then none else some nf.2) else none
theorem fixD_nil {free : FuncId → Bool} {fx : List Nat} {i : Nat} {o : Oper} : fixD free ([], fx) i o = none := (rfl)
theorem fixD_no {free : FuncId → Bool} {l fx : List Nat} {i : Nat} {o : Oper} (h : l.contains i = false) : fixD free (l, fx) i o = none := by unfold fixD; rw [h]; rfl
theorem fixD_yes {free : FuncId → Bool} {l fx : List Nat} {i : Nat} {o : Oper} (h : l.contains i = true) : fixD free (l, fx) i o = bif freeCall free o then none else some fx := by unfold fixD; rw [h]; rfl
def evLD (P : Program) (H : Handler) (pol : Pol) (f : FuncId) (all : List Oper) (need : List Nat) (nf : List Nat × List Nat) (pl : List Tmp) : List Nat → St → Option (AExit × St)
 | [], st => some (.normal, { st with env := wipe st.env pl })
 | i :: rest, st => oB (opAt all i) fun o => wantedL all o st.env
   (oB (opA P pol f pl o st) fun r => rKD H (okD H.free need i o) (fixD H.free nf i o) r fun v st' => evLD P H pol f all need nf pl rest (st'.puts o.dst (leftA o v)))
   (evLD P H pol f all need nf pl rest (st.puts o.dst .undef))
theorem evLD_nil {all : List Oper} {need nf pl} (st : St) : evLD P H pol f all need nf pl [] st = some (.normal, { st with env := wipe st.env pl }) := (rfl)
theorem evLD_cons {all : List Oper} {need : List Nat} {nf : List Nat × List Nat} {pl : List Tmp} (i : Nat) (rest : List Nat) (st : St) : evLD P H pol f all need nf pl (i :: rest) st = oB (opAt all i) fun o => wantedL all o st.env
   (oB (opA P pol f pl o st) fun r => rKD H (okD H.free need i o) (fixD H.free nf i o) r fun v st' => evLD P H pol f all need nf pl rest (st'.puts o.dst (leftA o v)))
   (evLD P H pol f all need nf pl rest (st.puts o.dst .undef)) := (rfl)
theorem evOpsD_evLD {ops : Array Oper} {need : Need} {pl : List Tmp} : ∀ (l : List Nat) (st : St), evOpsD P H pol f ops need pl l st = evLD P H pol f ops.toList need.strict (need.fix, need.fx) pl l st
 | [], st => rfl
 | i :: l, st => by
  have ih := evOpsD_evLD (ops := ops) (need := need) (pl := pl) l
  rw [evLD_cons]
  show (match evOne P H pol f ops need pl i st with
   | some (.normal, st') => evOpsD P H pol f ops need pl l st'
   | r => r) = _
  unfold evOne
  rw [← opAt_eq, Array.getElem?_toList]
  cases ops[i]? with
  | none => rfl
  | some o =>
   rw [oB_some, ← wantedL_eq]
   simp only [opK_eq]
   unfold wantedK
   cases wantedA ops o st.env with
   | none => rfl
   | some w =>
    cases w with
    | false => exact ih _
    | true =>
     simp only
     cases opA P pol f pl o st with
     | none => rfl
     | some r =>
      rw [oB_some]
      cases r with
      | val v st' =>
       simp only [rKD]
       cases v <;> simp only [notBox, nbK, if_true] <;> first | exact ih _ | rfl
      | pan ch st' => rfl
      | call t as st' =>
       simp only [rKD]
       cases H.call t as st'.S with
       | none => rfl
       | some eS =>
        obtain ⟨e, S'⟩ := eS
        cases e with
        | pan ch => rfl
        | ret v =>
         simp only [cKD]
         have hok : (!need.strict.contains i || freeCall H.free o || sameOld st'.S S') = (okD H.free need.strict i o || sameOld st'.S S') := by
          unfold okD
          cases need.strict.contains i <;> rfl
         rw [hok]
         have hfx : ∀ x : Option (AExit × St), fK (fixD H.free (need.fix, need.fx) i o) st'.env st'.S S' x = if (!need.fix.contains i || freeCall H.free o || sameFix st'.env need.fx st'.S S') = true then x else none := by
          intro x
          unfold fixD
          cases need.fix.contains i <;> cases freeCall H.free o <;> simp [fK]
         rw [hfx]
         unfold sK
         cases hc : (okD H.free need.strict i o || sameOld st'.S S') <;> cases hc2 : (!need.fix.contains i || freeCall H.free o || sameFix st'.env need.fx st'.S S')
         ·cases v <;> rfl
         ·cases v <;> rfl
         ·cases v <;> rfl
         ·cases v <;> simp only [notBox, nbK, Bool.and_true, Bool.and_self, if_true] <;> first | exact ih _ | rfl
def dK (pol : Pol) (f : FuncId) (ops : Array Oper) (r : Option (AExit × St)) : Option (AExit × St) := match r with
 | some (.pan ch, st') => some (.pan ch, { st' with env := maskD pol f ops st'.env })
 | r => r
@[congr] theorem dK_congr {ops : Array Oper} {r r' : Option (AExit × St)} (h : r = r') : dK pol f ops r = dK pol f ops r' := by rw [h]
theorem dK_normal {ops : Array Oper} (st : St) : dK pol f ops (some (.normal, st)) = some (.normal, st) := (rfl)
theorem dK_pan {ops : Array Oper} (ch : List APan) (st : St) : dK pol f ops (some (.pan ch, st)) = some (.pan ch, { st with env := maskD pol f ops st.env }) := (rfl)
def bxK {α : Type} (b : Bool) (x : Option α) : Option α := bif b then x else none
@[congr] theorem bxK_congr {α : Type} {b b' : Bool} {x : Option α} (h : b = b') : bxK b x = bxK b' x := by rw [h]
theorem bxK_true {α : Type} (x : Option α) : bxK true x = x := (rfl)
def nbAt (env : List AV) : List Tmp → Bool
 | [] => true
 | t :: ts => nb1 (getT env t) (nbAt env ts)
 where nb1 (v : AV) (b : Bool) : Bool := match v with | .box _ => false | _ => b
theorem nbAt_nil (env : List AV) : nbAt env [] = true := (rfl)
theorem nbAt_cons (env : List AV) (t : Tmp) (ts : List Tmp) : nbAt env (t :: ts) = nbAt.nb1 (getT env t) (nbAt env ts) := (rfl)
theorem nbAt_eq (env : List AV) : ∀ ts, noBoxAt env ts = nbAt env ts
 | [] => rfl
 | t :: ts => by
  rw [nbAt_cons, ← nbAt_eq env ts, ← getT_eq]
  show ((match env.getD t .undef with | .box _ => false | _ => true) && noBoxAt env ts) = _
  cases env.getD t .undef <;> simp [nbAt.nb1]
theorem evDraw_go {n id : Nat} {l : List Oper} {st : St} (h : drawFull pol f id l.toArray = true) :
  evDraw P (handler P pol n) pol f id l.toArray st = bxK (nbAt st.env (pol.wr f id)) (dK pol f l.toArray (evLD P (handler P pol n) pol f l (pol.need f id) (pol.needF f id) (plL l) ((pol.orders f id).headD []) st)) := by
 unfold drawFull at h
 unfold evDraw
 rw [free_handler]
 cases ho : pol.orders f id with
 | nil => rw [ho] at h; cases h
 | cons o ws =>
  rw [ho] at h
  simp only at h ⊢
  rw [h, Bool.true_and, nbAt_eq, evOpsD_evLD, plL_eq]
  cases nbAt st.env (pol.wr f id) <;> rfl
theorem nbK_unk {α : Type} (x : Option α) : nbK .unk x = x := (rfl)
theorem nbK_bool {α : Type} (b : Bool) (x : Option α) : nbK (.bool b) x = x := (rfl)
theorem nbK_int {α : Type} (k : IntKind) (n : Int) (x : Option α) : nbK (.int k n) x = x := (rfl)
theorem nbK_str {α : Type} (s : List UInt8) (x : Option α) : nbK (.str s) x = x := (rfl)
theorem nbK_nilptr {α : Type} (x : Option α) : nbK .nilptr x = x := (rfl)
theorem nbK_ptr {α : Type} (i o : Nat) (x : Option α) : nbK (.ptr i o) x = x := (rfl)
theorem nbK_fptr {α : Type} (cs : List AV) (x : Option α) : nbK (.fptr cs) x = x := (rfl)
theorem nbK_lptr {α : Type} (s o : Nat) (x : Option α) : nbK (.lptr s o) x = x := (rfl)
theorem nbK_nilsl {α : Type} (x : Option α) : nbK .nilsl x = x := (rfl)
theorem nbK_sl {α : Type} (w : Bool) (es : Nat) (rs : List (List AV)) (x : Option α) : nbK (.sl w es rs) x = x := (rfl)
theorem nbK_rsl {α : Type} (a b c d : Nat) (x : Option α) : nbK (.rsl a b c d) x = x := (rfl)
theorem nbK_aptr {α : Type} (a b c : Nat) (x : Option α) : nbK (.aptr a b c) x = x := (rfl)
theorem nbK_nilmap {α : Type} (x : Option α) : nbK .nilmap x = x := (rfl)
theorem nbK_map {α : Type} (i : Nat) (x : Option α) : nbK (.map i) x = x := (rfl)
theorem nbK_nilfn {α : Type} (x : Option α) : nbK .nilfn x = x := (rfl)
theorem nbK_fn {α : Type} (g : Fn) (a b : List AV) (x : Option α) : nbK (.fn g a b) x = x := (rfl)
theorem nbK_yld {α : Type} (i : Nat) (x : Option α) : nbK (.yld i) x = x := (rfl)
theorem nbK_niliface {α : Type} (x : Option α) : nbK .niliface x = x := (rfl)
theorem nbK_iface {α : Type} (t : TypeId) (v : AV) (x : Option α) : nbK (.iface t v) x = x := (rfl)
theorem nbK_agg {α : Type} (cs : List AV) (x : Option α) : nbK (.agg cs) x = x := (rfl)
theorem nbK_tup {α : Type} (vs : List AV) (x : Option α) : nbK (.tup vs) x = x := (rfl)
theorem nbK_undef {α : Type} (x : Option α) : nbK .undef x = x := (rfl)
theorem nbK_sv {α X : Type} (own : Bool) (es : Nat) (g : X → List AV) (o : Option (List X)) (x : Option α) : nbK (sv own es g o) x = x := by cases o <;> rfl
theorem nb1_unk (b : Bool) : nbAt.nb1 .unk b = b := (rfl)
theorem nb1_bool (c : Bool) (b : Bool) : nbAt.nb1 (.bool c) b = b := (rfl)
theorem nb1_int (k : IntKind) (n : Int) (b : Bool) : nbAt.nb1 (.int k n) b = b := (rfl)
theorem nb1_str (s : List UInt8) (b : Bool) : nbAt.nb1 (.str s) b = b := (rfl)
theorem nb1_nilptr (b : Bool) : nbAt.nb1 .nilptr b = b := (rfl)
theorem nb1_ptr (i o : Nat) (b : Bool) : nbAt.nb1 (.ptr i o) b = b := (rfl)
theorem nb1_fptr (cs : List AV) (b : Bool) : nbAt.nb1 (.fptr cs) b = b := (rfl)
theorem nb1_lptr (s o : Nat) (b : Bool) : nbAt.nb1 (.lptr s o) b = b := (rfl)
theorem nb1_nilsl (b : Bool) : nbAt.nb1 .nilsl b = b := (rfl)
theorem nb1_sl (w : Bool) (es : Nat) (rs : List (List AV)) (b : Bool) : nbAt.nb1 (.sl w es rs) b = b := (rfl)
theorem nb1_rsl (x y c d : Nat) (b : Bool) : nbAt.nb1 (.rsl x y c d) b = b := (rfl)
theorem nb1_aptr (x y c : Nat) (b : Bool) : nbAt.nb1 (.aptr x y c) b = b := (rfl)
theorem nb1_nilmap (b : Bool) : nbAt.nb1 .nilmap b = b := (rfl)
theorem nb1_map (i : Nat) (b : Bool) : nbAt.nb1 (.map i) b = b := (rfl)
theorem nb1_nilfn (b : Bool) : nbAt.nb1 .nilfn b = b := (rfl)
theorem nb1_fn (g : Fn) (x y : List AV) (b : Bool) : nbAt.nb1 (.fn g x y) b = b := (rfl)
theorem nb1_yld (i : Nat) (b : Bool) : nbAt.nb1 (.yld i) b = b := (rfl)
theorem nb1_niliface (b : Bool) : nbAt.nb1 .niliface b = b := (rfl)
theorem nb1_iface (t : TypeId) (v : AV) (b : Bool) : nbAt.nb1 (.iface t v) b = b := (rfl)
theorem nb1_agg (cs : List AV) (b : Bool) : nbAt.nb1 (.agg cs) b = b := (rfl)
theorem nb1_tup (vs : List AV) (b : Bool) : nbAt.nb1 (.tup vs) b = b := (rfl)
theorem nb1_undef (b : Bool) : nbAt.nb1 .undef b = b := (rfl)
theorem nb1_sv {X : Type} (own : Bool) (es : Nat) (g : X → List AV) (o : Option (List X)) (b : Bool) : nbAt.nb1 (sv own es g o) b = b := by cases o <;> rfl
theorem okD_no {free : FuncId → Bool} {need : List Nat} {i : Nat} {o : Oper} (h : need.contains i = false) : okD free need i o = true := by unfold okD; rw [h]; rfl
theorem okD_yes {free : FuncId → Bool} {need : List Nat} {i : Nat} {o : Oper} (h : need.contains i = true) : okD free need i o = freeCall free o := by unfold okD; rw [h]; rfl
theorem freeCall_call {free : FuncId → Bool} {d : Option Tmp} {g : FuncId} {args : Array Operand} {ts : Array TypeId} {ty : TypeId} {po : String} {af : Array Edge} {gd : Option (Nat × Bool)} :
  freeCall free ⟨d, .call { callee := .value (.func g), args := args, argTypes := ts }, ty, po, af, gd⟩ = free g := rfl
attribute [simp] fK_none fixD_nil sK_true cKD_ret cKD_pan rKD_val rKD_pan rKD_call evLD_nil evLD_cons dK_normal dK_pan bxK_true nbAt_nil nbAt_cons free_handler freeCall_call
attribute [simp] nbK_unk nbK_bool nbK_int nbK_str nbK_nilptr nbK_ptr nbK_fptr nbK_lptr nbK_nilsl nbK_sl nbK_rsl nbK_aptr nbK_nilmap nbK_map nbK_nilfn nbK_fn nbK_yld nbK_niliface nbK_iface nbK_agg nbK_tup nbK_undef nbK_sv
attribute [simp] nb1_unk nb1_bool nb1_int nb1_str nb1_nilptr nb1_ptr nb1_fptr nb1_lptr nb1_nilsl nb1_sl nb1_rsl nb1_aptr nb1_nilmap nb1_map nb1_nilfn nb1_fn nb1_yld nb1_niliface nb1_iface nb1_agg nb1_tup nb1_undef nb1_sv
attribute [simp] ev_draw
end Go.Ab
