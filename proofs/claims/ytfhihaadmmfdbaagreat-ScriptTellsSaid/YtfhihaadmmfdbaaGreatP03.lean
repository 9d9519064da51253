/- Raw and Check tell of one event as the document says, whatever the event (pomanderlaw19.ScriptTells). No conditions. -/
import Derived.Test.YtfhihaadmmfdbaaGreatP02
import Derived.Orders
import Derived.Below
import Derived.Carry
import Derived.ChangeOld
import Derived.ChangeArms
import Derived.WalkKit
import Derived.ProofKit
import Derived.OpenShut
import Derived.SizedLaws
namespace Go.Ab
variable {P : Program} {C : Ctx} {n : Nat}
def Own (d : Nat) (l : List Nat) : Prop := ∃ k r, l = k :: r ∧ (k = 1 ∨ k = d + 2)
theorem Own.deep {d : Nat} {l : List Nat} (h : Own d l) : Deep d l := by
 obtain ⟨k, r, rfl, h⟩ := h
 exact ⟨k, r, rfl, by omega⟩
def mvr (d t i : Nat) : List Nat → List Nat
 | k :: t' :: r => if k = d + 2 ∧ t' = t then (d + 3) :: i :: r else k :: t' :: r
 | l => l
theorem mvr_good (d t i : Nat) : Good (mvr d t i) d [t] := by
 refine ⟨rfl, rfl, fun r => ?_, fun l hl => ?_, fun t' ht' r => ?_⟩
 ·cases r with
  | nil => rfl
  | cons a r => simp only [mvr]; rw [if_neg (by omega)]
 ·match l with
  | [] => rfl
  | [_] => rfl
  | k :: t' :: r =>
   simp only [mvr]
   rw [if_neg]
   rintro ⟨rfl, _⟩
   exact hl ⟨d + 2, t' :: r, rfl, .inr (Nat.le_refl _)⟩
 ·simp only [mvr]
  rw [if_neg (by simp at ht'; simp [ht'])]
theorem mvr_own (d t i : Nat) (l : List Nat) (h : ¬ Own d l) : mvr d t i l = l := by
 match l with
 | [] => rfl
 | [_] => rfl
 | k :: t' :: r =>
  simp only [mvr]
  rw [if_neg]
  rintro ⟨rfl, _⟩
  exact h ⟨d + 2, t' :: r, rfl, .inr rfl⟩
theorem mvt_own {a b off k d dst : Nat} {agg : Bool} {e : Nat} (ha : a = 1 ∨ a = e + 2) (l : List Nat) (h : ¬ Own e l) : mvt a b off k d dst agg l = l := by
 match l with
 | [] => rfl
 | [_] => rfl
 | a' :: b' :: r =>
  refine mvt_other (fun hh => h ?_) r
  exact ⟨a', b' :: r, rfl, by rw [hh.1]; exact ha⟩
def readR (tmps : Array Value) (r : ResultVar) : Sem Value :=
 match r with
 | .tmp t => pure (tmps.getD t undef)
 | .cell a t => do loadVar t (← asAddr (tmps.getD a undef))
theorem adr_tmp {d : Nat} {env : List AV} {tmps : Array Value} (hE : EnvRel C d env tmps) (a : Nat) (ha : isAdr (adr env (.tmp a)) = true) : VRel C (adr env (.tmp a)) (some [d + 2, a]) (tmps.getD a Go.undef) :=
 adr_rel hE [] (.tmp a) a ha
theorem frzA_ok {d : Nat} {env : List AV} {tmps : Array Value} {fz : Bool} {S : Sto} {v : AV} {p : Option (List Nat)} {c : Value} (hE : EnvRel C d env tmps) (hS : HeapRel C S) (hv : VRel C v p c) (hp : isPl v = false) :
  ∃ C', C'.w = C.w ∧ VRel C' (frzA fz S v).1 p c ∧ isPl (frzA fz S v).1 = false ∧ EnvRel C' d env tmps ∧ HeapRel C' (frzA fz S v).2 ∧ Ext (Own d) C C' := by
 have triv : ∃ C', C'.w = C.w ∧ VRel C' v p c ∧ isPl v = false ∧ EnvRel C' d env tmps ∧ HeapRel C' S ∧ Ext (Own d) C C' := ⟨C, rfl, hv, hp, hE, hS, Ext.refl _ _⟩
 unfold frzA
 split
 ·rename_i id es len
  split
  ·rename_i es' rows hg
   split
   ·rename_i hc
    obtain ⟨rfl, rfl⟩ := hc
    obtain ⟨hid, h1, h2, h3, h4, h5⟩ := hS.get hg
    simp only [VRel] at hv
    obtain ⟨b, o, cap, rfl, hl, hk, hn, hs, ha⟩ := hv
    refine ⟨C.map (fzL id), rfl, ?_, rfl, ?_, hS.frz id, Ext.map C (fzL_froz id) (fun l hl => fzL_other (fun e => hl ⟨1, [id, 0], e, .inl rfl⟩))⟩
    ·simp only [VRel]
     refine ⟨b, o, cap, none, rfl, hl, h1, ?_, (fun h => by cases h), .inl rfl⟩
     rcases ha with ha | ⟨rfl, rfl⟩
     ·have : rows = [] := List.length_eq_zero_iff.1 (by omega)
      subst this
      simp [RowsRel]
     ·rw [Nat.zero_mul, Nat.add_zero]
      exact h4.frz
    ·exact EnvRel.map (fzL_froz id) hE (fun t v _ => .inl (fun r => fzL_other (by simp)))
   ·exact triv
  ·exact triv
 ·exact triv
theorem frzCells_ok {d : Nat} {tmps : Array Value} {env : List AV} {p : Option (List Nat)} (hp : Off (Own d) p) : ∀ {vs : List AV} {C : Ctx} {S : Sto} {i : Nat} {cs : List Value}, EnvRel C d env tmps → HeapRel C S → ListRel C vs p i cs →
  ∃ C', C'.w = C.w ∧ ListRel C' (frzCells S vs).1 p i cs ∧ EnvRel C' d env tmps ∧ HeapRel C' (frzCells S vs).2 ∧ Ext (Own d) C C'
 | [], C, S, i, cs, hE, hS, h => ⟨C, rfl, by simpa only [frzCells, ListRel] using h, hE, hS, Ext.refl _ _⟩
 | v :: vs, C, S, i, cs, hE, hS, h => by
  simp only [ListRel] at h
  obtain ⟨c, cs', rfl, hl, hv, hr⟩ := h
  obtain ⟨C1, w1, v1, l1, e1, s1, x1⟩ := frzA_ok (fz := true) hE hS hv hl
  obtain ⟨C2, w2, v2, e2, s2, x2⟩ := frzCells_ok hp e1 s1 (ListRel.mono x1 vs p (i + 1) cs' hp hr)
  refine ⟨C2, w2.trans w1, ?_, e2, s2, x1.trans x2⟩
  simp only [frzCells, ListRel]
  exact ⟨c, cs', rfl, l1, VRel.mono x2 _ _ c (hp.sub i) (isPl_lp l1) v1, v2⟩
theorem frzV_ok {d : Nat} {env : List AV} {tmps : Array Value} {fz : Bool} {S : Sto} {v : AV} {p : Option (List Nat)} {c : Value} (hoff : Off (Own d) p) (hE : EnvRel C d env tmps) (hS : HeapRel C S) (hv : VRel C v p c) (hp : isPl v = false) :
  ∃ C', C'.w = C.w ∧ VRel C' (frzV fz S v).1 p c ∧ isPl (frzV fz S v).1 = false ∧ EnvRel C' d env tmps ∧ HeapRel C' (frzV fz S v).2 ∧ Ext (Own d) C C' := by
 unfold frzV
 split
 ·rename_i cs
  simp only [VRel] at hv
  obtain ⟨cs', rfl, hf, hr⟩ := hv
  obtain ⟨C', w, v, e, s, x⟩ := frzCells_ok hoff hE hS hr
  exact ⟨C', w, by simp only [VRel]; exact ⟨cs', rfl, hf, v⟩, rfl, e, s, x⟩
 ·exact frzA_ok hE hS hv hp
theorem off_res (d i : Nat) : Off (Own d) (some [d + 3, i]) := fun q hq => by
 have hq' : [d + 3, i] = q := Option.some.inj hq
 subst hq'
 refine ⟨by simp, by simp [froz], fun r h => ?_⟩
 obtain ⟨k, r', he, hk⟩ := h
 simp at he
 omega
theorem result_ok {fz : Bool} {d : Nat} {env env' : List AV} {tmps : Array Value} {S S' : Sto} {r : ResultVar} {v : AV} (i : Nat) (h : resultA P fz env S r = some (v, env', S')) (hE : EnvRel C d env tmps) (hS : HeapRel C S) :
  ∃ C' c, C'.w = C.w ∧ (readR tmps r).run P C.w = .ok c C.w ∧ VRel C' v (some [d + 3, i]) c ∧ isPl v = false ∧ EnvRel C' d env' tmps ∧ HeapRel C' S' ∧ Ext (Own d) C C' := by
 cases r with
 | tmp t =>
  simp only [resultA, Option.some.injEq, Prod.mk.injEq] at h
  obtain ⟨rfl, rfl, rfl⟩ := h
  obtain ⟨h1, h2⟩ := opt_rel hE [] t
  have hg := mvr_good d t i
  have hv : VRel (C.map (mvr d t i)) (opt env (.tmp t)) (some [d + 3, i]) (tmps.getD t undef) :=
   VRel.map rfl _ _ _ _ (.inr ⟨_, _, rfl, rfl, fun r => by simp [mvr]⟩) (isPl_lp h2) (fun hb => absurd hb (by simp [isPl_bx h2])) h1
  obtain ⟨C', k1, k2, k3, k4, k5, k6⟩ := frzV_ok (fz := fz) (off_res d i) (hg.env hE) (hg.heap hS) hv h2
  exact ⟨C', tmps.getD t undef, k1, rfl, k2, k3, k4, k5, (Ext.map C rfl (mvr_own d t i)).trans k6⟩
 | cell a t =>
  simp only [resultA] at h
  split at h
  ·rename_i id off hav
   split at h
   ·rename_i cs hg
    cases hw : takeCells P t off cs with
    | none => rw [hw] at h; cases h
    | some vc =>
     obtain ⟨v1, cs'⟩ := vc
     rw [hw] at h
     simp only [Option.map_some, Option.some.injEq, Prod.mk.injEq] at h
     obtain ⟨rfl, rfl, rfl⟩ := h
     have ha := adr_tmp hE a (by rw [hav]; rfl)
     rw [hav] at ha
     simp only [VRel] at ha
     obtain ⟨k, agg, c, hrun, hv, hb, hpl⟩ := take_box (P := P) (hS.get hg).2 hw (d + 1) i
     have hx0 : Ext (fun l => ∃ r, l = 1 :: id :: r) C (C.map (mvt 1 id off k (d + 1) i agg)) := Ext.map C rfl (fun l hl => by
      match l with
      | [] => rfl
      | [_] => rfl
      | x :: y :: r => exact mvt_other (fun h => hl ⟨r, by rw [h.1, h.2]⟩) r)
     have hE2 : EnvRel (C.map (mvt 1 id off k (d + 1) i agg)) d env tmps := hE.mono hx0 (fun t' r h => by obtain ⟨r', h⟩ := h; simp at h)
     have hS2 : HeapRel (C.map (mvt 1 id off k (d + 1) i agg)) (S.put id (.cells cs')) := hS.put hg hx0 rfl (fun j r hne h => by obtain ⟨r', h⟩ := h; simp at h; exact hne h.1) (fun b x h => by
       show mvt _ _ _ _ _ _ _ (C.L b x) = _
       rw [hS.fresh b x h]; rfl) hb
     obtain ⟨C', k1, k2, k3, k4, k5, k6⟩ := frzV_ok (fz := fz) (off_res d i) hE2 hS2 hv hpl
     refine ⟨C', c, k1, ?_, k2, k3, k4, k5, (hx0.weaken (fun l hl => by obtain ⟨r, rfl⟩ := hl; exact ⟨1, id :: r, rfl, .inl rfl⟩)).trans k6⟩
     simp [readR, ha.1, asAddr, hrun]
   ·cases h
  ·rename_i s off hav
   split at h
   ·rename_i cs hg
    cases hw : takeCells P t off cs with
    | none => rw [hw] at h; cases h
    | some vc =>
     obtain ⟨v1, cs'⟩ := vc
     rw [hw] at h
     simp only [Option.map_some, Option.some.injEq, Prod.mk.injEq] at h
     obtain ⟨rfl, rfl, rfl⟩ := h
     have ha := adr_tmp hE a (by rw [hav]; rfl)
     rw [hav] at ha
     simp only [VRel] at ha
     obtain ⟨d', r', hp, hc⟩ := ha
     obtain ⟨hd1, _⟩ := List.cons.inj (Option.some.inj hp)
     have hd : d' = d := by omega
     subst hd
     obtain ⟨hb0, hs'⟩ := hE.box hg
     obtain ⟨k, agg, c, hrun, hv, hb, hpl⟩ := take_box (P := P) hb0 hw (d' + 1) i
     have hx0 : Ext (fun l => ∃ r, l = (d' + 2) :: s :: r) C (C.map (mvt (d' + 2) s off k (d' + 1) i agg)) := Ext.map C rfl (fun l hl => by
      match l with
      | [] => rfl
      | [_] => rfl
      | x :: y :: r => exact mvt_other (fun h => hl ⟨r, by rw [h.1, h.2]⟩) r)
     have hcs : tmps.getD s Go.undef = .pointer (some ⟨C.β d' s, 0, none⟩) := by
      have := hE.getD s
      rw [hg] at this
      simp only [VRel] at this
      obtain ⟨d'', t'', hp, hc, _⟩ := this
      obtain ⟨e1, e2⟩ := List.cons.inj (Option.some.inj hp)
      obtain ⟨e2, _⟩ := List.cons.inj e2
      have : d'' = d' := by omega
      subst this; subst e2
      exact hc
     have hE3 : EnvRel (C.map (mvt (d' + 2) s off k (d' + 1) i agg)) d' (env.set s (.box cs')) tmps := by
      have hE1 : EnvRel C d' (env.set s .unk) tmps := hE.setA s (by simp [VRel])
      have hE2 := hE1.mono2 hx0 rfl (fun t' v hv => by
       by_cases htd : t' = s
       ·subst htd
        left
        rw [List.getElem?_set] at hv
        simp only [if_true] at hv
        split at hv <;> cases hv
        rfl
       ·right
        rintro r ⟨r', e⟩
        simp at e
        exact htd e.1)
      have := hE2.setA s (v := .box cs') (by rw [hcs]; simp only [VRel]; exact ⟨d', s, rfl, rfl, hb⟩)
      rwa [List.set_set] at this
     have hS3 : HeapRel (C.map (mvt (d' + 2) s off k (d' + 1) i agg)) S := hS.mono hx0 rfl (fun r h => by obtain ⟨r', h⟩ := h; simp at h) (fun b x h => by
       show mvt _ _ _ _ _ _ _ (C.L b x) = _
       rw [hS.fresh b x h]; rfl)
     obtain ⟨C', k1, k2, k3, k4, k5, k6⟩ := frzV_ok (fz := fz) (off_res d' i) hE3 hS3 hv hpl
     refine ⟨C', c, k1, ?_, k2, k3, k4, k5, (hx0.weaken (fun l hl => by obtain ⟨r, rfl⟩ := hl; exact ⟨d' + 2, s :: r, rfl, .inr rfl⟩)).trans k6⟩
     simp [readR, hc, asAddr, hrun]
   ·cases h
  ·cases h
theorem results_ok {fz : Bool} {d : Nat} {tmps : Array Value} : ∀ {rs : List ResultVar} {C : Ctx} {env : List AV} {S S' : Sto} {vs : List AV} (i : Nat), resultsA P fz rs env S = some (vs, S') → EnvRel C d env tmps → HeapRel C S →
  ∃ C' cs, C'.w = C.w ∧ (rs.mapM (readR tmps)).run P C.w = .ok cs C.w ∧ ListRel C' vs (some [d + 3]) i cs ∧ HeapRel C' S' ∧ Ext (Own d) C C' ∧ vs.length = rs.length
 | [], C, env, S, S', vs, i, h, hE, hS => by
  simp only [resultsA, Option.some.injEq, Prod.mk.injEq] at h
  obtain ⟨rfl, rfl⟩ := h
  exact ⟨C, [], rfl, by simp, by simp [ListRel], hS, Ext.refl _ _, rfl⟩
 | r :: rs, C, env, S, S', vs, i, h, hE, hS => by
  simp only [resultsA] at h
  split at h
  ·cases h
  ·rename_i v env1 S1 h1
   split at h
   ·cases h
   ·rename_i vs2 S2 h2
    simp only [Option.some.injEq, Prod.mk.injEq] at h
    obtain ⟨rfl, rfl⟩ := h
    obtain ⟨C1, c, w1, r1, v1, p1, e1, s1, x1⟩ := result_ok i h1 hE hS
    obtain ⟨C2, cs, w2, r2, v2, s2, x2, l2⟩ := results_ok (i + 1) h2 e1 s1
    refine ⟨C2, c :: cs, w2.trans w1, ?_, ?_, s2, x1.trans x2, by simp [l2]⟩
    ·rw [w1] at r2
     simp [r1, r2]
    ·simp only [ListRel]
     refine ⟨c, cs, rfl, p1, ?_, v2⟩
     exact VRel.mono x2 _ _ _ (fun q hq => by
      have hq' : [d + 3, i] = q := Option.some.inj hq
      subst hq'
      refine ⟨by simp, by simp [froz], fun r h => ?_⟩
      obtain ⟨k, r', he, hk⟩ := h
      simp at he
      omega) (isPl_lp p1) v1
end Go.Ab
namespace Go.Ab
variable {P : Program} {C : Ctx} {n : Nat}
def tupOf : List Value → Value
 | [c] => c
 | cs => .tuple cs.toArray
theorem results_run {fn : Func} {tmps : Array Value} {w : World} {cs : List Value} (h : (fn.results.toList.mapM (readR tmps)).run P w = .ok cs w) :
  (results fn tmps).run P w = .ok (tupOf cs) w := by
 have hm : (results fn tmps) = (do let vs ← fn.results.mapM (readR tmps); pure (if h : vs.size = 1 then vs[0] else .tuple vs)) := by
  unfold results
  congr 1
 rw [hm, Array.mapM_eq_mapM_toList]
 simp only [Sem.run_bind, h, Result.andThen, map_eq_pure_bind]
 match cs with
 | [] => simp [tupOf]
 | [c] => simp [tupOf]
 | c :: c2 :: cs => simp [tupOf]
theorem drop_all {env : List AV} : ∀ {ts : List Tmp} {S : Sto}, HeapRel C S → HeapRel C (freeAt env ts S)
 | [], S, h => h
 | t :: ts, S, h => by
  unfold freeAt
  refine drop_all ?_
  split
  ·exact h.drop _
  ·exact h
theorem enter_env {d : Nat} {args : List AV} {cargs : List Value} (ha : ListRel C args (some [d + 2]) 0 cargs) (k : Nat) :
  EnvRel C d (args ++ List.replicate (k - args.length) .undef) (cargs.toArray ++ Array.replicate (k - cargs.toArray.size) undef) ∧ LpIn (args ++ List.replicate (k - args.length) .undef) [] := by
 have hl := ha.length
 refine ⟨⟨by simp; omega, fun t v hv => ?_⟩, fun t s off ht => ?_⟩
 ·by_cases ht : t < args.length
  ·rw [List.getElem?_append_left ht] at hv
   obtain ⟨c, hc, hp, hr⟩ := ha.getElem? t v hv
   refine ⟨c, ?_, by simpa [sub] using hr⟩
   rw [Array.getElem?_append_left (by simp; omega)]
   simpa using hc
  ·rw [List.getElem?_append_right (by omega), List.getElem?_replicate] at hv
   split at hv
   ·cases hv
    refine ⟨undef, ?_, undef_rel _ _⟩
    rw [Array.getElem?_append_right (by simp; omega), Array.getElem?_replicate]
    rw [if_pos (by simp; omega)]
   ·cases hv
 ·by_cases hlt : t < args.length
  ·rw [List.getElem?_append_left hlt] at ht
   obtain ⟨c, hc, hp, hr⟩ := ha.getElem? t _ ht
   simp [isPl, isLp] at hp
  ·rw [List.getElem?_append_right (by omega), List.getElem?_replicate] at ht
   split at ht <;> cases ht
section steps
variable {b : FB} {tmps : Array Value} {defers : List Deferred} {k : List Item} {cm : FrameMode} {w : World}
theorem leaveF_end (hr : b.rnd = none) : step P (b.mach tmps defers [] cm w) = .next (lone { b.at tmps defers [] with mode := .returning } (b.K cm) w) := step_lone_go (by simp [stepG, stepG.exec, FB.at, hr])
theorem leaveF_ret (hr : b.rnd = none) : step P (b.mach tmps defers (.code .ret :: k) cm w) = .next (lone { b.at tmps defers (.code .ret :: k) with mode := .returning } (b.K cm) w) := step_lone_go (by simp [stepG, stepG.exec, FB.at, hr])
end steps
structure Leaves (P : Program) (C : Ctx) (d : Nat) (b : FB) (m : Machine) (e : AEnd) (par : AMode) (S' : Sto) : Prop where
 out : ∃ C' fr cm, Steps P m (lone fr (b.K cm) C'.w) ∧ fr.defers = [] ∧ fr.kind = b.kind ∧ fr.fn = b.fn ∧ fr.roundOf = none ∧ ParRel C' b par cm ∧ HeapRel C' S' ∧ Ext (Deep d) C C' ∧
  match e with
  | .ret v => fr.mode = .returning ∧ isPl v = false ∧ ∃ fn cv, P.funcs[fr.fn]? = some fn ∧ (results fn fr.tmps).run P C'.w = .ok cv C'.w ∧ VRel C' v (some [d + 3]) cv
  | .pan ch => ∃ cch, fr.mode = .panicking cch ∧ ChainRel C' ch cch
theorem runFn_ok (hF : Fine P) {H : Handler} (hH : HSound P H) {N : Nat} {pol : Pol} (hD : DrawOK P H pol) {f : FuncId} {par par' : AMode} {args : List AV} {S S' : Sto} {e : AEnd} (h : runFn P H N pol f par args S = some (e, par', S'))
  {d : Nat} {cargs : List Value} (hS : HeapRel C S) (ha : ListRel C args (some [d + 2]) 0 cargs) {b : FB} (hb : b.fn = f) (hbr : b.rnd = none) {cm : FrameMode} (hp : ParRel C b par cm) :
  (callFunc f cargs.toArray).run P C.w = .ok (.enter f cargs.toArray) C.w ∧ Leaves P C d b (lone (Frame.enter P f cargs.toArray b.kind) (b.K cm) C.w) e par' S' := by
 unfold runFn at h
 cases hfn : P.funcs[f]? with
 | none => rw [hfn] at h; cases h
 | some fn =>
 rw [hfn] at h
 simp only at h
 cases hbody : fn.body with
 | none => rw [hbody] at h; cases h
 | some c =>
 rw [hbody] at h
 simp only at h
 refine ⟨?_, ?_⟩
 ·have hnm := hF.calls f fn hfn (by rw [hbody]; rfl)
  have hnm' : ¬ fn.name = "runtime.NumGoroutine" := by simpa using hnm
  simp [callFunc, hfn, hbody, hnm']
 obtain ⟨hE0, hl0⟩ := enter_env ha fn.ntmps
 have hm0 : lone (Frame.enter P f cargs.toArray b.kind) (b.K cm) C.w = b.mach (cargs.toArray ++ Array.replicate (fn.ntmps - cargs.toArray.size) undef) [] [.code c] cm C.w := by
  simp [Frame.enter, FB.mach, FB.at, hfn, hbody, hb, hbr]
 rw [hm0]
 cases hev : evCode P H N pol f none c { env := args ++ List.replicate (fn.ntmps - args.length) .undef, defs := [], par, S } with
 | none => rw [hev] at h; cases h
 | some r =>
 obtain ⟨x, st⟩ := r
 rw [hev] at h
 obtain ⟨C1, t1, d1, c1, x1, hR1, hn1, ha1⟩ := code_ok hF hH hD c hev (b := b) hb (by rw [hbr]; rfl) (fun l hl => by cases hl) ⟨hE0, hS, rfl, hp⟩ hl0 []
 -- the frame begins to leave
 obtain ⟨m, hm, todo, fm, hM, hst⟩ : ∃ m, (match x with | .normal | .ret => some AMode.returning | .pan ch => some (.panicking ch) | _ => none) = some m ∧ ∃ todo fm, ModeRel C1 m fm ∧
   Steps P (b.mach (cargs.toArray ++ Array.replicate (fn.ntmps - cargs.toArray.size) undef) [] [.code c] cm C.w) (lone { b.at t1 d1 todo with mode := fm } (b.K c1) C1.w) := by
  cases x with
  | normal => exact ⟨_, rfl, [], .returning, rfl, Steps.trans ha1 (.one (leaveF_end hbr))⟩
  | ret => obtain ⟨k0, hk⟩ := ha1; exact ⟨_, rfl, _, .returning, rfl, Steps.trans hk (.one (leaveF_ret hbr))⟩
  | pan ch => obtain ⟨cch, todo, hch, hk⟩ := ha1; exact ⟨_, rfl, todo, .panicking cch, ⟨cch, rfl, hch⟩, hk⟩
  | exit id => simp at h
  | goto l => simp at h
 have hun : (match some m with
   | none => none
   | some m => match unwindA H st.defs m st.S with
    | some (.returning, S') => match resultsA P (pol.frz f) fn.results.toList st.env S' with
     | some (vs, S'') => some (AEnd.ret (oneOf vs), st.par, freeAt st.env (pol.frees f) S'')
     | none => none
    | some (.panicking ch, S') => some (.pan ch, st.par, freeAt st.env (pol.frees f) S')
    | _ => none) = some (e, par', S') := by
  rw [← hm]
  exact h
 simp only at hun
 cases hu : unwindA H st.defs m st.S with
 | none => rw [hu] at hun; cases hun
 | some r =>
 obtain ⟨m2, S2⟩ := r
 rw [hu] at hun
 obtain ⟨C2, fm2, x2, hS2, hM2, hst2⟩ := unwind_ok hH (d := d + 1) (u := { b.at t1 d1 todo with mode := fm }) (cs := b.K c1) hu hR1.heap hR1.defs hM
 have hdeep : ∀ l, Deep (d + 1) l → Deep d l := by
  rintro l ⟨a, r, rfl, h1⟩
  exact ⟨a, r, rfl, by omega⟩
 have hE2 : EnvRel C2 d st.env t1 := hR1.env.mono x2 (fun t r hh => by
  obtain ⟨a, r', he, h1⟩ := hh
  simp at he
  omega)
 have xx : Ext (Deep d) C C2 := x1.trans (x2.weaken hdeep)
 have hP2 : ParRel C2 b st.par c1 := hR1.par.mono x2
 have hgo := hst.trans hst2
 cases m2 with
 | none => cases hun
 | unk => cases hun
 | panicking ch =>
  simp only [Option.some.injEq, Prod.mk.injEq] at hun
  obtain ⟨rfl, rfl, rfl⟩ := hun
  obtain ⟨cch, hfm, hch⟩ := hM2
  exact ⟨⟨C2, _, c1, hgo, rfl, rfl, rfl, hbr, hP2, drop_all hS2, xx, cch, hfm, hch⟩⟩
 | returning =>
  simp only at hun
  cases hres : resultsA P (pol.frz f) fn.results.toList st.env S2 with
  | none => rw [hres] at hun; cases hun
  | some r =>
  obtain ⟨vs, S3⟩ := r
  rw [hres] at hun
  simp only [Option.some.injEq, Prod.mk.injEq] at hun
  obtain ⟨rfl, rfl, rfl⟩ := hun
  obtain ⟨C3, cs, hw3, hrun, hvs, hS3, x3, hlen⟩ := results_ok (P := P) 0 hres hE2 hS2
  have hrr := results_run hrun
  clear hrun
  have hx3 : Ext (Deep d) C2 C3 := x3.weaken (fun l hl => hl.deep)
  match vs, cs, hvs, hrr with
  | [v], [cv], hvs, hrr =>
   simp only [ListRel] at hvs
   obtain ⟨cv', cs', he, hpl, hv, _⟩ := hvs
   simp only [List.cons.injEq] at he
   obtain ⟨rfl, _⟩ := he
   let g : List Nat → List Nat := fun l => match l with | a :: z :: r => if a = d + 3 ∧ z = 0 then (d + 3) :: r else a :: z :: r | l => l
   have hgood : Good g d [] := by
    refine ⟨rfl, rfl, fun r => ?_, fun l hl => ?_, fun t _ r => ?_⟩
    ·cases r with
     | nil => rfl
     | cons a r => show (if _ then _ else _) = _; rw [if_neg (by omega)]
    ·match l with
     | [] => rfl
     | [_] => rfl
     | a :: z :: r =>
      show (if _ then _ else _) = _
      rw [if_neg]
      rintro ⟨rfl, _⟩
      exact hl ⟨d + 3, z :: r, rfl, .inr (by omega)⟩
    ·show (if _ then _ else _) = _
     rw [if_neg (by omega)]
   have hv4 : VRel (C3.map g) v (some [d + 3]) cv :=
    VRel.map rfl _ _ _ _ (.inr ⟨_, _, rfl, rfl, fun r => by show (if _ then _ else _) = _; rw [if_pos ⟨rfl, rfl⟩]; rfl⟩) (isPl_lp hpl) (fun hb => absurd hb (by simp [isPl_bx hpl])) hv
   refine ⟨⟨C3.map g, { b.at t1 d1 todo with defers := [], mode := fm2 }, c1, ?_, rfl, rfl, rfl, hbr, (hP2.mono hx3).mono hgood.ext, drop_all (hgood.heap hS3), (xx.trans hx3).trans hgood.ext, ?_⟩⟩
   ·show Steps P _ (lone _ (b.K c1) C3.w)
    rw [hw3]; exact hgo
   ·refine ⟨hM2, hpl, fn, cv, by rw [show ({ b.at t1 d1 todo with defers := [], mode := fm2 } : Frame).fn = f from hb]; exact hfn, ?_, hv4⟩
    show (results fn t1).run P C3.w = .ok cv C3.w
    rw [hw3]; exact hrr
  | [], [], hvs, hrr =>
   refine ⟨⟨C3, { b.at t1 d1 todo with defers := [], mode := fm2 }, c1, by rw [hw3]; exact hgo, rfl, rfl, rfl, hbr, hP2.mono hx3, drop_all hS3, xx.trans hx3, ?_⟩⟩
   refine ⟨hM2, rfl, fn, .tuple #[], by rw [show ({ b.at t1 d1 todo with defers := [], mode := fm2 } : Frame).fn = f from hb]; exact hfn, by rw [hw3]; exact hrr, ?_⟩
   simp only [oneOf, VRel]
   exact ⟨[], rfl, hvs⟩
  | v :: v2 :: vs, cv :: cv2 :: cs, hvs, hrr =>
   refine ⟨⟨C3, { b.at t1 d1 todo with defers := [], mode := fm2 }, c1, by rw [hw3]; exact hgo, rfl, rfl, rfl, hbr, hP2.mono hx3, drop_all hS3, xx.trans hx3, ?_⟩⟩
   refine ⟨hM2, rfl, fn, .tuple (cv :: cv2 :: cs).toArray, by rw [show ({ b.at t1 d1 todo with defers := [], mode := fm2 } : Frame).fn = f from hb]; exact hfn, by rw [hw3]; exact hrr, ?_⟩
   simp only [oneOf, VRel]
   exact ⟨_, rfl, hvs⟩
  | [], _ :: _, hvs, _ => have := hvs.length; simp at this
  | _ :: _, [], hvs, _ => have := hvs.length; simp at this
  | [_], _ :: _ :: _, hvs, _ => have := hvs.length; simp at this
  | _ :: _ :: _, [_], hvs, _ => have := hvs.length; simp at this
end Go.Ab
namespace Go.Ab
variable {P : Program} {C : Ctx} {n : Nat}
theorem runFn_fn {H : Handler} {N : Nat} {pol : Pol} {f : FuncId} {par : AMode} {args : List AV} {S : Sto} {r : AEnd × AMode × Sto} (h : runFn P H N pol f par args S = some r) : ∃ fn, P.funcs[f]? = some fn := by
 unfold runFn at h
 cases hf : P.funcs[f]? with
 | none => rw [hf] at h; cases h
 | some fn => exact ⟨fn, rfl⟩
theorem ChainRel.no_exit : ∀ {as : List APan} {cs : List PanicEntry}, ChainRel C as cs → cs.dropWhile (!·.goexit) = []
 | [], cs, h => by
  have : cs = [] := h
  subst this; rfl
 | a :: as, cs, ⟨c, cs', e, _, _, hg, hr⟩ => by
  subst e
  simp [List.dropWhile, hg, hr.no_exit]
theorem ChainRel.append : ∀ {as bs : List APan} {cs ds : List PanicEntry}, ChainRel C as cs → ChainRel C bs ds → ChainRel C (as ++ bs) (cs ++ ds)
 | [], bs, cs, ds, h, h' => by
  have : cs = [] := h
  subst this; exact h'
 | a :: as, bs, cs, ds, ⟨c, cs', e, h1, h2, h3, h4⟩, h' => by
  subst e
  exact ⟨c, cs' ++ ds, rfl, h1, h2, h3, h4.append h'⟩
def settle (m : FrameMode) : FrameMode :=
 match m with
 | .panicking ({ recovered := true, .. } :: older) => match older.dropWhile (!·.goexit) with
  | [] => .returning
  | rest => .panicking rest
 | m => m
theorem step_back {fr u : Frame} {cs : List Frame} {w : World} {v : Value} {fn : Func} (hm : fr.mode = .returning) (hd : fr.defers = []) (hk : fr.kind = .deferred) (hf : P.funcs[fr.fn]? = some fn) (hr : (results fn fr.tmps).run P w = .ok v w) :
  step P (lone fr (u :: cs) w) = .next (lone { u with mode := settle u.mode } cs w) := by
 refine step_lone_go ?_
 have e : (match u.mode with
    | .panicking ({ recovered := true, .. } :: older) =>
     match older.dropWhile (!·.goexit) with
     | [] => { u with mode := .returning }
     | rest => { u with mode := .panicking rest }
    | _ => u) = { u with mode := settle u.mode } := by
  unfold settle
  split
  ·rename_i older hm
   split <;> rfl
  ·rfl
 simp [stepG, unwind, doReturn, hm, hd, hk, hf, hr]
 exact e
theorem settle_rel {m : AMode} {fm : FrameMode} (h : ModeRel C m fm) : ModeRel C (settleA m) (settle fm) := by
 cases m with
 | none => exact h.elim
 | unk => exact h.elim
 | returning =>
  have : fm = .returning := h
  subst this; rfl
 | panicking ch =>
  obtain ⟨cch, rfl, hc⟩ := h
  cases ch with
  | nil =>
   have : cch = [] := hc
   subst this
   exact ⟨[], rfl, rfl⟩
  | cons a as =>
   obtain ⟨c, cs', rfl, h1, h2, h3, h4⟩ := hc
   obtain ⟨av, ar⟩ := a
   obtain ⟨cv, cr, cg⟩ := c
   simp only at h2 h3
   subst h2; subst h3
   cases cr with
   | true =>
    show settle _ = _
    simp only [settle, h4.no_exit]
   | false => exact ⟨_, rfl, ⟨_, _, rfl, h1, rfl, rfl, h4⟩⟩
theorem raise_rel {m : AMode} {u : Frame} {ch : List APan} {cch : List PanicEntry} (h : ModeRel C m u.mode) (hc : ChainRel C ch cch) : ∃ um, ModeRel C (raisedA m ch) um ∧ u.raise cch = { u with mode := um } := by
 cases m with
 | none => exact h.elim
 | unk => exact h.elim
 | returning =>
  have hm : u.mode = .returning := h
  exact ⟨.panicking cch, ⟨_, rfl, hc⟩, by simp [Frame.raise, hm]⟩
 | panicking old =>
  obtain ⟨co, hm, ho⟩ := h
  exact ⟨.panicking (cch ++ co), ⟨_, rfl, hc.append ho⟩, by simp [Frame.raise, hm]⟩
def gF : List Nat → List Nat
 | 1 :: r => 0 :: 1 :: r
 | 0 :: a :: r => 0 :: 0 :: a :: r
 | l => l
def gB : List Nat → List Nat
 | 0 :: 1 :: r => 1 :: r
 | 0 :: 0 :: a :: r => 0 :: a :: r
 | l => l
theorem gF_froz : gF froz = froz := rfl
theorem gB_froz : gB froz = froz := rfl
theorem gBF (l : List Nat) : gB (gF l) = l := by
 match l with
 | [] => rfl
 | [0] => rfl
 | [1] => rfl
 | [_ + 2] => rfl
 | 0 :: a :: r => rfl
 | 1 :: a :: r => rfl
 | (_ + 2) :: a :: r => rfl
theorem gF_big (a : Nat) (ha : 2 ≤ a) (r : List Nat) : gF (a :: r) = a :: r := by
 match a, r with
 | 0, _ => omega
 | 1, _ => omega
 | n + 2, r => rfl
theorem gB_big (a : Nat) (ha : 2 ≤ a) (r : List Nat) : gB (a :: r) = a :: r := by
 match a, r with
 | 0, _ => omega
 | 1, _ => omega
 | n + 2, [] => rfl
 | n + 2, b :: r => rfl
theorem gF_calm {d : Nat} {l : List Nat} (hne : l ≠ []) (h : ¬ (Deep d l ∧ ∀ r, l ≠ 1 :: r)) : gF l ≠ [] ∧ ¬ Deep d (gF l) := by
 match l, hne, h with
 | [0], _, _ => exact ⟨by simp [gF], by rintro ⟨k, r, e, hk⟩; cases e; omega⟩
 | 1 :: r, _, _ => exact ⟨by simp [gF], by rintro ⟨k, r', e, hk⟩; cases e; omega⟩
 | 0 :: a :: r, _, _ => exact ⟨by simp [gF], by rintro ⟨k, r', e, hk⟩; cases e; omega⟩
 | (n + 2) :: r, _, h =>
  have : gF ((n + 2) :: r) = (n + 2) :: r := gF_big _ (by omega) r
  rw [this]
  refine ⟨by simp, fun hd => h ⟨hd, fun r' e => by cases e⟩⟩
theorem aside_ext {d : Nat} {C' : Ctx} (h : Ext (Deep d) (C.map gF) C') : Ext (fun l => Deep d l ∧ ∀ r, l ≠ 1 :: r) C (C'.map gB) where
 n := h.n
 ids := h.ids
 fr := fun b o hl => by
  obtain ⟨h1, h2⟩ := h.fr b o (by show gF (C.L b o) = froz; rw [hl, gF_froz])
  exact ⟨by show gB (C'.L b o) = froz; rw [h1, gB_froz], h2⟩
 keep := fun b o hne hx => by
  obtain ⟨a1, a2⟩ := gF_calm hne hx
  obtain ⟨h1, h2⟩ := h.keep b o a1 a2
  refine ⟨?_, h2⟩
  show gB (C'.L b o) = C.L b o
  rw [h1]; exact gBF _
 β := fun d' s hx => h.β d' s (fun hd => hx ⟨hd, fun r e => by cases e⟩)
 shape := h.shape
 old := ⟨h.old.base, h.old.size, h.old.os, h.old.tape, h.old.output, h.old.fr⟩
theorem aside_heap {d : Nat} {C' : Ctx} {S : Sto} (hS : HeapRel C S) (h : Ext (Deep d) (C.map gF) C') {k : Nat} (hk : C'.n = k) (hfr : ∀ b o, C'.w.heap.size ≤ b → C'.L b o = []) : HeapRel (C'.map gB) { heap := S.heap, next := k } where
 n := hk
 nodup := hS.nodup
 obj := fun id o ho => by
  have hx := aside_ext h
  have h1 := (hS.obj id o ho).1
  refine ⟨?_, (hS.obj id o ho).2.mono hx (by rw [hS.n]; exact h1) (fun r hh => hh.2 _ rfl)⟩
  have := h.n
  have e : (C.map gF).n = S.next := hS.n
  rw [e, hk] at this
  show id < k; omega
 fresh := fun b o hb => by
  show gB (C'.L b o) = []
  rw [hfr b o hb]; rfl
 base := hS.base.mono (aside_ext h)
def freeCallA (run : List AV → Sto → Option (AEnd × AMode × Sto)) (args : List AV) (S : Sto) : Option (AEnd × Sto) :=
 match args with
 | [] => match run [] { heap := [], next := 0 } with
  | some (.ret (.bool b), _, _) => some (.ret (.bool b), S)
  | _ => none
 | args => match run args { heap := [], next := S.next } with
  | some (.ret v, _, S1) => some (.ret v, { heap := S.heap, next := S1.next })
  | _ => none
def Ctx.begin (C : Ctx) : Ctx := { C.map gF with n := 0 }
def Ctx.back (C C' : Ctx) : Ctx := { C'.map gB with φ := C.φ, ψ := C.ψ, σ := C.σ, κ := C.κ, n := C.n }
theorem back_ext {d : Nat} {C C' : Ctx} (h : Ext (Deep d) C.begin C') : Ext (fun l => Deep d l ∧ ∀ r, l ≠ 1 :: r) C (C.back C') where
 n := Nat.le_refl _
 ids := fun _ _ => ⟨rfl, rfl, rfl, rfl⟩
 fr := fun b o hl => by
  obtain ⟨h1, h2⟩ := h.fr b o (by show gF (C.L b o) = froz; rw [hl, gF_froz])
  exact ⟨by show gB (C'.L b o) = froz; rw [h1, gB_froz], h2⟩
 keep := fun b o hne hx => by
  obtain ⟨a1, a2⟩ := gF_calm hne hx
  obtain ⟨h1, h2⟩ := h.keep b o a1 a2
  refine ⟨?_, h2⟩
  show gB (C'.L b o) = C.L b o
  rw [h1]; exact gBF _
 β := fun d' s hx => h.β d' s (fun hd => hx ⟨hd, fun r e => by cases e⟩)
 shape := h.shape
 old := ⟨h.old.base, h.old.size, h.old.os, h.old.tape, h.old.output, h.old.fr⟩
theorem back_heap {d : Nat} {C C' : Ctx} {S : Sto} (hS : HeapRel C S) (h : Ext (Deep d) C.begin C') (hfr : ∀ b o, C'.w.heap.size ≤ b → C'.L b o = []) : HeapRel (C.back C') S where
 n := hS.n
 nodup := hS.nodup
 obj := fun id o ho => by
  have h1 := (hS.obj id o ho).1
  exact ⟨h1, (hS.obj id o ho).2.mono (back_ext h) (by rw [hS.n]; exact h1) (fun r hh => hh.2 _ rfl)⟩
 fresh := fun b o hb => by
  show gB (C'.L b o) = []
  rw [hfr b o hb]; rfl
 base := hS.base.mono (back_ext h)
theorem handler_ok (hF : Fine P) {pol : Pol} (hD : ∀ H, HSound P H → DrawOK P H pol) : ∀ n, HSound P (handler P pol n)
 | 0 => by
  refine ⟨?_, ?_, ?_, ?_⟩
  ·intro g args S e S' _ h; cases h
  ·intro t args S e S' h; cases h
  ·intro g args m m' S e S' h; cases h
  ·intro f round c st x st' h; cases h
 | n + 1 => by
  have ih := handler_ok hF hD n
  refine ⟨?_, ?_, ?_, ?_⟩
  ·intro g args S e S' hfree h
   have hfree' : pol.free g = true := hfree
   have h' : freeCallA (runFn P (handler P pol n) n pol g .none) args S = some (e, S') := by
    have h0 := h
    simp only [handler] at h0
    rw [if_pos hfree'] at h0
    exact h0
   have hgo : ∀ S2 r, freeCallA (runFn P (handler P pol n) n pol g .none) args S2 = r → (handler P pol (n + 1)).call (.func g) args S2 = r := by
    intro S2 r hr
    simp only [handler]
    rw [if_pos hfree']
    exact hr
   unfold freeCallA at h' hgo
   split at h'
   ·split at h'
    ·rename_i b _ _ hrun
     cases h'
     refine ⟨.bool b, S.next, rfl, rfl, fun S2 hS2 => hgo S2 _ ?_⟩
     simp only [hrun, ← hS2]
    ·cases h'
   ·split at h'
    ·rename_i hne _ v p S1 hrun
     cases h'
     refine ⟨v, S1.next, rfl, rfl, fun S2 hS2 => hgo S2 _ ?_⟩
     split
     ·exact absurd rfl hne
     ·rw [hS2, hrun]
    ·cases h'
  ·intro t args S e S' h C d cargs hS ha
   cases t with
   | yield id => exact yield_ok hF ih (hD _ ih) h hS ha
   | func f =>
    by_cases hfree : pol.free f = true
    ·have h' : freeCallA (runFn P (handler P pol n) n pol f .none) args S = some (e, S') := by
      have h0 := h
      simp only [handler] at h0
      rw [if_pos hfree] at h0
      exact h0
     unfold freeCallA at h'
     split at h'
     ·split at h'
      ·rename_i b p S1 hr
       cases h'
       obtain ⟨fn, hfn⟩ := runFn_fn hr
       have hS0 : HeapRel (C.begin) { heap := [], next := 0 } :=
        ⟨rfl, List.nodup_nil, (fun _ _ hm => by cases hm), fun b o hb => by show gF (C.L b o) = []; rw [hS.fresh b o hb]; rfl, ⟨hS.base.1, fun b o hb => by show gF (C.L b o) = froz; rw [hS.base.2 b o hb]; rfl⟩⟩
       have hc0 : cargs = [] := by simpa only [ListRel] using ha
       subst hc0
       have main := fun (c : Frame) (cs : List Frame) => runFn_ok hF ih (hD _ ih) hr (d := d) hS0 (cargs := []) (by simp only [ListRel]) (b := { fn := f, kind := .normal, rnd := none, K := fun _ => c :: cs, head := by intro h; cases h }) rfl rfl (cm := .returning) ⟨rfl, rfl⟩
       refine ⟨_, _, (main default []).1, rfl, fun c cs => ?_⟩
       obtain ⟨C', fr, cm, hst, h1, h2, h3, h4, h5, h6, h7, h8⟩ := (main c cs).2.out
       obtain ⟨g1, g2, fn', cv, g3, g4, g5⟩ := h8
       refine ⟨C.back C', (back_ext h7).weaken (fun _ h => h.1), back_heap hS h7 h6.fresh, g2, cv, ?_, Steps.trans hst (.one (step_leave_returned ⟨g1, h1, h2, fn', g3, g4⟩))⟩
       simpa only [VRel] using g5
      ·cases h'
     split at h'
     ·rename_i hne _ v p S1 hr
      cases h'
      obtain ⟨fn, hfn⟩ := runFn_fn hr
      have hS0 : HeapRel (C.map gF) { heap := [], next := S.next } :=
       ⟨hS.n, List.nodup_nil, (fun _ _ hm => by cases hm), fun b o hb => by show gF (C.L b o) = []; rw [hS.fresh b o hb]; rfl, ⟨hS.base.1, fun b o hb => by show gF (C.L b o) = froz; rw [hS.base.2 b o hb]; rfl⟩⟩
      have ha0 : ListRel (C.map gF) args (some [d + 2]) 0 cargs := ListRel.map gF_froz args _ _ 0 cargs (.inr ⟨_, _, rfl, rfl, fun r => gF_big (d + 2) (by omega) r⟩) ha
      have main := fun (c : Frame) (cs : List Frame) => runFn_ok hF ih (hD _ ih) hr (d := d) hS0 ha0 (b := { fn := f, kind := .normal, rnd := none, K := fun _ => c :: cs, head := by intro h; cases h }) rfl rfl (cm := .returning) ⟨rfl, rfl⟩
      refine ⟨_, _, (main default []).1, rfl, fun c cs => ?_⟩
      obtain ⟨C', fr, cm, hst, h1, h2, h3, h4, h5, h6, h7, h8⟩ := (main c cs).2.out
      obtain ⟨g1, g2, fn', cv, g3, g4, g5⟩ := h8
      refine ⟨C'.map gB, (aside_ext h7).weaken (fun _ h => h.1), aside_heap hS h7 h6.n h6.fresh, g2, cv, ?_, Steps.trans hst (.one (step_leave_returned ⟨g1, h1, h2, fn', g3, g4⟩))⟩
      exact VRel.map gB_froz _ _ _ _ (.inr ⟨_, _, rfl, rfl, fun r => gB_big (d + 3) (by omega) r⟩) (isPl_lp g2) (fun hb => absurd hb (by simp [isPl_bx g2])) g5
     ·cases h'
    have h' : (runFn P (handler P pol n) n pol f .none args S).map (fun x => (x.1, x.2.2)) = some (e, S') := by
     have h0 := h
     simp only [handler] at h0
     rw [if_neg hfree] at h0
     exact h0
    cases hr : runFn P (handler P pol n) n pol f .none args S with
    | none => rw [hr] at h'; cases h'
    | some r =>
     obtain ⟨e1, p1, S1⟩ := r
     rw [hr] at h'
     simp only [Option.map_some, Option.some.injEq, Prod.mk.injEq] at h'
     obtain ⟨rfl, rfl⟩ := h'
     obtain ⟨fn, hfn⟩ := runFn_fn hr
     have main := fun (c : Frame) (cs : List Frame) => runFn_ok hF ih (hD _ ih) hr (d := d) hS ha (b := { fn := f, kind := .normal, rnd := none, K := fun _ => c :: cs, head := by intro h; cases h }) rfl rfl (cm := .returning) ⟨rfl, rfl⟩
     refine ⟨_, _, (main default []).1, rfl, fun c cs => ?_⟩
     obtain ⟨C', fr, cm, hst, h1, h2, h3, h4, h5, h6, h7, h8⟩ := (main c cs).2.out
     refine ⟨C', h7, h6, ?_⟩
     cases e1 with
     | ret v =>
      obtain ⟨g1, g2, fn', cv, g3, g4, g5⟩ := h8
      exact ⟨g2, cv, g5, Steps.trans hst (.one (step_leave_returned ⟨g1, h1, h2, fn', g3, g4⟩))⟩
     | pan ch =>
      obtain ⟨cch, g1, g2⟩ := h8
      exact ⟨cch, g2, Steps.trans hst (.one (step_leave_panicked ⟨g1, h1, fn, by rw [h3]; exact hfn⟩))⟩
  ·intro g args m m' S e S' h C d cargs u hS ha hM
   have hr : runFn P (handler P pol n) n pol g m args S = some (e, m', S') := h
   obtain ⟨fn, hfn⟩ := runFn_fn hr
   have hpar : ∀ cs, ParRel C { fn := g, kind := .deferred, rnd := none, K := fun fm => { u with mode := fm } :: cs, head := fun _ => ⟨u, cs, fun _ => rfl⟩ } m u.mode := by
    intro cs
    cases m with
    | none => exact hM.elim
    | unk => exact hM.elim
    | returning => exact ⟨rfl, rfl, hM⟩
    | panicking ch => exact ⟨rfl, rfl, hM⟩
   have main := fun (cs : List Frame) => runFn_ok hF ih (hD _ ih) hr (d := d) hS (ListRel.any _ _ _ _ _ ha) (b := { fn := g, kind := .deferred, rnd := none, K := fun fm => { u with mode := fm } :: cs, head := fun _ => ⟨u, cs, fun _ => rfl⟩ }) rfl rfl (hpar cs)
   refine ⟨(main []).1, fun cs => ?_⟩
   obtain ⟨C', fr, cm, hst, h1, h2, h3, h4, h5, h6, h7, h8⟩ := (main cs).2.out
   have hM' : ModeRel C' m' cm := by
    cases m' with
    | none => cases h5.1
    | unk => cases h5.1
    | returning => exact h5.2.2
    | panicking ch => exact h5.2.2
   have hst' : Steps P (lone (Frame.enter P g cargs.toArray .deferred) (u :: cs) C.w) (lone fr ({ u with mode := cm } :: cs) C'.w) := hst
   cases e with
   | ret v =>
    obtain ⟨g1, g2, fn', cv, g3, g4, g5⟩ := h8
    exact ⟨C', settle cm, h7, h6, settle_rel hM', Steps.trans hst' (.one (step_back (u := { u with mode := cm }) g1 h1 h2 g3 g4))⟩
   | pan ch =>
    obtain ⟨cch, g1, g2⟩ := h8
    obtain ⟨um, k1, k2⟩ := raise_rel (u := { u with mode := cm }) hM' g2
    refine ⟨C', um, h7, h6, k1, Steps.trans hst' (.one ?_)⟩
    have := step_leave_panicked (P := P) (fr := fr) (c := { u with mode := cm }) (cs := cs) (w := C'.w) ⟨g1, h1, fn, by rw [h3]; exact hfn⟩
    rw [k2] at this
    exact this
  ·intro f round c st x st' h C d b tmps defers cm hfn hrd hrn hR hl k
   exact code_ok hF ih (hD _ ih) c h hfn hrd hrn hR hl k
end Go.Ab
namespace Go.Ab
def ClosedM (m : Region.Mode) (ops : Array Oper) (done : List Nat) : List Nat → Prop
 | [] => True
 | i :: l => i ∉ done ∧ (∃ o, ops[i]? = some o ∧ ∀ e ∈ o.after, Region.binds m e = true → e.on ∈ done) ∧ ClosedM m ops (i :: done) l
abbrev Closed (ops : Array Oper) (done : List Nat) (l : List Nat) : Prop := ClosedM .any ops done l
theorem closedB_closed {m : Region.Mode} {ops : Array Oper} : ∀ {l done : List Nat}, closedB m ops done l = true → ClosedM m ops done l
 | [], _, _ => trivial
 | i :: l, done, h => by
  simp only [closedB, Bool.and_eq_true, Bool.not_eq_true'] at h
  obtain ⟨⟨h1, h2⟩, h3⟩ := h
  refine ⟨by simpa using h1, ?_, closedB_closed h3⟩
  cases ho : ops[i]? with
  | none => rw [ho] at h2; cases h2
  | some o =>
   rw [ho] at h2
   simp only [Array.all_eq_true] at h2
   refine ⟨o, rfl, fun e he hb => ?_⟩
   obtain ⟨k, hk, rfl⟩ := Array.mem_iff_getElem.1 he
   have := h2 k hk
   simpa [hb] using this
section
variable {m : Region.Mode} {ops : Array Oper}
theorem closed_notin : ∀ {l done : List Nat}, ClosedM m ops done l → ∀ j ∈ done, j ∉ l
 | [], _, _, _, _ => by simp
 | a :: l, done, h, j, hj => by
  intro hm
  rcases List.mem_cons.1 hm with rfl | hm
  ·exact h.1 hj
  ·exact closed_notin h.2.2 j (List.mem_cons_of_mem _ hj) hm
theorem closed_nodup : ∀ {l done : List Nat}, ClosedM m ops done l → l.Nodup
 | [], _, _ => List.nodup_nil
 | a :: l, done, h => List.nodup_cons.2 ⟨closed_notin h.2.2 a (by simp), closed_nodup h.2.2⟩
theorem closed_lt : ∀ {l done : List Nat}, ClosedM m ops done l → ∀ j ∈ l, j < ops.size
 | [], _, _, _, h => by cases h
 | a :: l, done, h, j, hj => by
  rcases List.mem_cons.1 hj with rfl | hj
  ·obtain ⟨o, ho, _⟩ := h.2.1
   exact (Array.getElem?_eq_some_iff.1 ho).1
  ·exact closed_lt h.2.2 j hj
theorem binds_any {m : Region.Mode} {e : Edge} (h : Region.binds .any e = true) : Region.binds m e = true := by
 unfold Region.binds at h ⊢
 cases hg : e.ground <;> rw [hg] at h <;> first | rfl | (simp at h)
theorem closed_any : ∀ {l done : List Nat}, ClosedM m ops done l → Closed ops done l
 | [], _, _ => trivial
 | a :: l, done, h => by
  obtain ⟨h1, ⟨o, ho, hd⟩, h2⟩ := h
  exact ⟨h1, ⟨o, ho, fun e he hb => hd e he (binds_any hb)⟩, closed_any h2⟩
theorem first_ready {listed : List Nat} : ∀ {l done : List Nat}, ClosedM m ops done l → (∀ i ∈ done, i ∈ listed) → (∃ i ∈ l, i ∉ listed) → ∃ i o, i ∉ listed ∧ ops[i]? = some o ∧ ∀ e ∈ o.after, Region.binds m e = true → e.on ∈ listed
 | [], _, _, _, h => by obtain ⟨i, h, _⟩ := h; cases h
 | a :: l, done, h, hd, hex => by
  by_cases ha : a ∈ listed
  ·refine first_ready h.2.2 (fun i hi => ?_) ?_
   ·rcases List.mem_cons.1 hi with rfl | hi
    ·exact ha
    ·exact hd i hi
   ·obtain ⟨i, hi, hn⟩ := hex
    rcases List.mem_cons.1 hi with rfl | hi
    ·exact absurd ha hn
    ·exact ⟨i, hi, hn⟩
  ·obtain ⟨_, ⟨o, ho, hdep⟩, _⟩ := h
   exact ⟨a, o, ha, ho, fun e he hb => hd _ (hdep e he hb)⟩
end
theorem ready_some {m : Region.Mode} {ops : Array Oper} {lw : List Nat} (hw : ClosedM m ops [] lw) (hwl : lw.length = ops.size) {listed : Array Bool} (hsz : listed.size = ops.size) (h : ∃ i, i < ops.size ∧ listed.getD i true = false) :
  ((List.range ops.size).filter fun i => !listed.getD i true && ((ops[i]?).map (·.after.all fun e => !Region.binds m e || listed.getD e.on false)).getD false) ≠ [] := by
 have hin : ∀ i, i < ops.size → i ∈ lw := by
  intro i hi
  refine Classical.byContradiction fun hna => ?_
  have hn' : (i :: lw).Nodup := List.nodup_cons.2 ⟨hna, closed_nodup hw⟩
  have := hn'.length_le_of_subset (l₂ := List.range ops.size) (fun b hb => by
   rcases List.mem_cons.1 hb with rfl | hb
   ·exact List.mem_range.2 hi
   ·exact List.mem_range.2 (closed_lt hw b hb))
  simp at this; omega
 let L := (List.range ops.size).filter fun i => listed.getD i false
 have hL : ∀ i, i < ops.size → (i ∈ L ↔ listed.getD i true = true) := by
  intro i hi
  have hi' : i < listed.size := by omega
  simp only [L, List.mem_filter, List.mem_range, hi, true_and]
  simp [hi']
 obtain ⟨i, o, h1, h2, h3⟩ := first_ready (listed := L) hw (by simp) (by
  obtain ⟨i, hi, hl⟩ := h
  refine ⟨i, hin i hi, fun hm => ?_⟩
  rw [(hL i hi).1 hm] at hl; cases hl)
 have hi := (Array.getElem?_eq_some_iff.1 h2).1
 intro he
 have hm : i ∈ (List.range ops.size).filter fun i => !listed.getD i true && ((ops[i]?).map (·.after.all fun e => !Region.binds m e || listed.getD e.on false)).getD false := by
  refine List.mem_filter.2 ⟨List.mem_range.2 hi, ?_⟩
  have : listed.getD i true = false := by
   cases hv : listed.getD i true with
   | false => rfl
   | true => exact absurd ((hL i hi).2 hv) h1
  rw [this, h2]
  simp only [Bool.not_false, Bool.true_and, Option.map_some, Option.getD_some, Array.all_eq_true]
  intro k hk
  by_cases hb : Region.binds m o.after[k] = true
  ·have hm := h3 _ (Array.getElem_mem hk) hb
   have := (List.mem_filter.1 hm).2
   simp only [this, Bool.or_true]
  ·simp [hb]
 rw [he] at hm
 cases hm
theorem lin_closed {m : Region.Mode} {ops : Array Oper} {lw : List Nat} (hb : ClosedM m ops [] lw) (hbl : lw.length = ops.size) : ∀ (fuel t : Nat) (listed : Array Bool) (done : List Nat), listed.size = ops.size → (∀ i, i < ops.size → (listed.getD i true = true ↔ i ∈ done)) → (∀ i ∈ done, i < ops.size) → done.Nodup → fuel + done.length = ops.size →
  ClosedM m ops done (Region.linearise.go m ops fuel t listed []) ∧ (Region.linearise.go m ops fuel t listed []).length = fuel
 | 0, t, listed, done, _, _, _, _, _ => by simp [Region.linearise.go, ClosedM]
 | fuel + 1, t, listed, done, hsz, hin, hlt, hnd, hf => by
  have hex : ∃ i, i < ops.size ∧ listed.getD i true = false := by
   refine Classical.byContradiction fun hn => ?_
   have hall : ∀ i, i < ops.size → i ∈ done := fun i hi => (hin i hi).1 (by
    cases hv : listed.getD i true with
    | true => rfl
    | false => exact absurd ⟨i, hi, hv⟩ hn)
   have hsub : (List.range ops.size).length ≤ done.length := (List.nodup_range).length_le_of_subset (fun i hi => hall i (List.mem_range.1 hi))
   simp at hsub
   omega
  have hne := ready_some hb hbl hsz hex
  simp only [Region.linearise.go]
  generalize hrs : ((List.range ops.size).filter fun i => !listed.getD i true && ((ops[i]?).map (·.after.all fun e => !Region.binds m e || listed.getD e.on false)).getD false) = rs at *
  have hpos : 0 < rs.length := List.length_pos_iff.2 hne
  have hlt' : t % rs.length < rs.length := Nat.mod_lt _ hpos
  rw [List.getElem?_eq_getElem hlt']
  simp only
  generalize hi : rs[t % rs.length] = i
  have him : i ∈ rs := by rw [← hi]; exact List.getElem_mem hlt'
  rw [← hrs] at him
  obtain ⟨h1, h2⟩ := List.mem_filter.1 him
  have hi' := List.mem_range.1 h1
  simp only [Bool.and_eq_true, Bool.not_eq_true'] at h2
  obtain ⟨h2, h3⟩ := h2
  rw [Array.getElem?_eq_getElem hi'] at h3
  simp only [Option.map_some, Option.getD_some, Array.all_eq_true] at h3
  have hnot : i ∉ done := fun hm => by rw [(hin i hi').2 hm] at h2; cases h2
  have ih := lin_closed hb hbl fuel (t / rs.length) (listed.setIfInBounds i true) (i :: done) (by simpa using hsz) (fun j hj => by
   by_cases e : i = j
   ·subst e
    have : i < listed.size := by omega
    simp [this]
   ·have hjl : j < listed.size := by omega
    have h0 := hin j hj
    simp only [Array.getD_eq_getD_getElem?, List.mem_cons] at h0 ⊢
    rw [Array.getElem?_setIfInBounds_ne e, h0]
    constructor
    ·exact .inr
    ·rintro (h | h)
     ·exact absurd h.symm e
     ·exact h) (fun j hj => by
   rcases List.mem_cons.1 hj with rfl | hj
   ·exact hi'
   ·exact hlt j hj) (List.nodup_cons.2 ⟨hnot, hnd⟩) (by simp; omega)
  rw [linearise_go_acc]
  simp only [List.reverse_singleton, List.singleton_append, ClosedM, List.length_cons]
  refine ⟨⟨hnot, ⟨ops[i], Array.getElem?_eq_getElem hi', fun e he hbd => ?_⟩, ih.1⟩, by rw [ih.2]⟩
  obtain ⟨k, hk, rfl⟩ := Array.mem_iff_getElem.1 he
  have := h3 k hk
  simp only [hbd, Bool.not_true, Bool.false_or] at this
  have hlk : (ops[i].after[k]).on < ops.size := by
   refine Classical.byContradiction fun hge => ?_
   have : listed.getD (ops[i].after[k]).on false = false := by
    have : ¬ (ops[i].after[k]).on < listed.size := by omega
    simp [this]
   simp_all
  refine (hin _ hlk).1 ?_
  have hlk2 : (ops[i].after[k]).on < listed.size := by omega
  simp [hlk2] at this ⊢
  exact this
end Go.Ab
namespace Go.Ab
variable {P : Program}
def Agree (L : List Tmp) (env env' : List AV) : Prop := ∀ t ∈ L, env.getD t .undef = env'.getD t .undef ∨ (∃ cs cs', env.getD t .undef = .box cs ∧ env'.getD t .undef = .box cs')
theorem mem_tmps {xs : List Operand} {x : Operand} (hx : x ∈ xs) : ∀ t, x = .tmp t → t ∈ tmpsOf xs := fun t h => List.mem_filterMap.2 ⟨x, hx, by rw [h]⟩
theorem opd_congr {L : List Tmp} {env env' : List AV} (h : Agree L env env') {x : Operand} (hx : ∀ t, x = .tmp t → t ∈ L) : opd env x = opd env' x := by
 cases x with
 | tmp t =>
  rcases h t (hx t rfl) with h | ⟨cs, cs', h1, h2⟩
  ·simp only [opd, h]
  ·simp only [opd, h1, h2]; rfl
 | _ => rfl
theorem opt_congr {L : List Tmp} {env env' : List AV} (h : Agree L env env') {x : Operand} (hx : ∀ t, x = .tmp t → t ∈ L) : opt env x = opt env' x := by
 cases x with
 | tmp t =>
  rcases h t (hx t rfl) with h | ⟨cs, cs', h1, h2⟩
  ·simp only [opt, h]
  ·simp only [opt, h1, h2]; rfl
 | _ => rfl
theorem adr_congr {L : List Tmp} {env env' : List AV} (h : Agree L env env') {x : Operand} (hx : ∀ t, x = .tmp t → t ∈ L) : adr env x = adr env' x := by
 cases x with
 | tmp t =>
  rcases h t (hx t rfl) with h | ⟨cs, cs', h1, h2⟩
  ·simp only [adr, h]
  ·simp only [adr, h1, h2]
 | _ => rfl
theorem pureA_congr {pol : Pol} {f : FuncId} {o : Oper} {env env' : List AV} (h : Agree (tmpsOf o.op.operands.toList) env env') : pureA P pol f o env = pureA P pol f o env' := by
 have od : ∀ x ∈ o.op.operands.toList, opd env x = opd env' x := fun x hx => opd_congr h (mem_tmps hx)
 have ot : ∀ x ∈ o.op.operands.toList, opt env x = opt env' x := fun x hx => opt_congr h (mem_tmps hx)
 have oa : ∀ x ∈ o.op.operands.toList, adr env x = adr env' x := fun x hx => adr_congr h (mem_tmps hx)
 have ol : ∀ xs : List Operand, (∀ x ∈ xs, x ∈ o.op.operands.toList) → xs.map (opd env) = xs.map (opd env') := fun xs hs => List.map_congr_left fun x hx => od x (hs x hx)
 have oo : ∀ x : Option Operand, (∀ y, x = some y → y ∈ o.op.operands.toList) → x.map (opd env) = x.map (opd env') := by
  intro x hx
  cases x with
  | none => rfl
  | some y => simp [od y (hx y rfl)]
 unfold pureA
 cases hop : o.op <;> simp only [hop, Op.operands] at od ot oa ol oo ⊢
 case move x => simp [od x (by simp), ot x (by simp)]
 case assign x => simp [ot x (by simp)]
 case pick c a b => simp [od c (by simp), od a (by simp), od b (by simp)]
 case build t ps =>
  have h1 : ∀ p ∈ ps.toList, opd env p.2 = opd env' p.2 := fun p hp => od p.2 (by simp; exact ⟨p.1, by simpa using hp⟩)
  have h2 : ∀ p ∈ ps.toList, opt env p.2 = opt env' p.2 := fun p hp => ot p.2 (by simp; exact ⟨p.1, by simpa using hp⟩)
  split
  ·rename_i i x hps
   rw [h2 (i, x) (by rw [hps]; simp)]
  ·congr 1
   exact List.map_congr_left fun p hp => by rw [h1 p hp]
 case nilCheck x => rw [oa x (by simp)]
 case binOp op t x y yt => rw [od x (by simp), od y (by simp)]
 case unOp op t x => rw [od x (by simp)]
 case makeInterface t x => rw [od x (by simp)]
 case makeFunc fn first cap => rw [ol first.toList (by simp; intro x hx; exact .inl hx), ol cap.toList (by simp; intro x hx; exact .inr hx)]
 case slice t x lo hi mx =>
  rw [ot x (by simp), oo lo (by rintro y rfl; simp), oo hi (by rintro y rfl; simp), oo mx (by rintro y rfl; simp)]
 case fieldAddr s x i => rw [oa x (by simp)]
 case field t x i => rw [od x (by simp)]
 case indexAddr t x i => rw [oa x (by simp), od i (by simp)]
 case index t x i => rw [od x (by simp), od i (by simp)]
 case typeAssert x xt t ok => rw [od x (by simp)]
 case extract x i => rw [od x (by simp)]
 case call c =>
  obtain ⟨callee, args, ts⟩ := c
  cases callee with
  | value g => rfl
  | invoke r m => rfl
  | builtin b =>
   simp only [Call.operands] at od ol
   cases b <;> simp only
   case cap =>
    split
    ·rename_i a t ts' ha ht
     rw [od a (by rw [Array.toList_append, ha]; simp)]
    ·rfl
   case min => rw [ol args.toList (fun x hx => by simpa using hx)]
   case max => rw [ol args.toList (fun x hx => by simpa using hx)]
end Go.Ab
namespace Go.Ab
variable {P : Program}
def BxS (env env' : List AV) : Prop := ∀ s cs, env.getD s .undef = .box cs → ∃ cs', env'.getD s .undef = .box cs' ∧ cs'.map AV.strip0 = cs.map AV.strip0
structure SR (S S' : Sto) : Prop where
 cells : ∀ id cs, S.get id = some (.cells cs) → ∃ cs', S'.get id = some (.cells cs') ∧ cs'.map AV.strip0 = cs.map AV.strip0
 arr : ∀ id es rows, S.get id = some (.arr es rows) → S'.get id = some (.arr es rows)
 map : ∀ id es, S.get id = some (.map es) → ∃ es', S'.get id = some (.map es') ∧ es'.length = es.length
theorem SR.refl (S : Sto) : SR S S := ⟨fun _ cs h => ⟨cs, h, rfl⟩, fun _ _ _ h => h, fun _ es h => ⟨es, h, rfl⟩⟩
theorem BxS.refl (env : List AV) : BxS env env := fun _ cs h => ⟨cs, h, rfl⟩
theorem sameOld_sr {S S' : Sto} (h : sameOld S S' = true) : SR S S' := by
 have at_ : ∀ id o, S.get id = some o → _ := fun id o hg => List.all_eq_true.1 h (id, o) (get_mem hg)
 refine ⟨fun id cs hg => ?_, fun id es rows hg => ?_, fun id es hg => ?_⟩
 ·have := at_ id _ hg
  simp only at this
  split at this
  ·rename_i cs' hg'
   rw [sameL_eq _ _ this]
   exact ⟨cs', hg', rfl⟩
  ·cases this
 ·have := at_ id _ hg
  simp only at this
  split at this
  ·rename_i es' rows' hg'
   simp only [Bool.and_eq_true, beq_iff_eq] at this
   rw [hg', this.1, sameR_eq _ _ this.2]
  ·cases this
 ·have := at_ id _ hg
  simp only at this
  split at this
  ·rename_i es' hg'
   simp only [beq_iff_eq] at this
   exact ⟨es', hg', this.symm⟩
  ·cases this
theorem load_congr {S S' : Sto} {env env' : List AV} {t : TypeId} {a v : AV} (hb : BxS env env') (hs : SR S S') (h : loadA P S env t a = some v) : loadA P S' env' t a = some v := by
 unfold loadA at h ⊢
 split at h
 ·split at h
  ·rename_i id off cs hg
   obtain ⟨cs', h1, h2⟩ := hs.cells _ _ hg
   simp only [h1]
   rw [List.map_drop, h2, ← List.map_drop]; exact h
  ·cases h
 ·split at h
  ·rename_i s off cs hg
   obtain ⟨cs', h1, h2⟩ := hb _ _ hg
   simp only [h1]
   rw [List.map_drop, h2, ← List.map_drop]; exact h
  ·cases h
 ·exact h
 ·split at h
  ·rename_i id r off es rows hg
   simp only [hs.arr _ _ _ hg]
   exact h
  ·cases h
 ·cases h
theorem len_congr {S S' : Sto} {t : TypeId} {x v : AV} (hs : SR S S') (h : lenA P S t x = some v) : lenA P S' t x = some v := by
 unfold lenA at h ⊢
 split at h <;> first | exact h | skip
 ·split at h
  ·rename_i id es hg
   obtain ⟨es', h1, h2⟩ := hs.map _ _ hg
   simp only [h1, h2]; exact h
  ·cases h
theorem rowsIn_congr {S S' : Sto} {es : Nat} {v : AV} {r : List (List AV)} (hs : SR S S') (h : rowsIn S es v = some r) : rowsIn S' es v = some r := by
 unfold rowsIn at h ⊢
 split at h
 ·split at h
  ·rename_i id es' off len es'' rows hg
   simp only [hs.arr _ _ _ hg]
   exact h
  ·cases h
 ·exact h
theorem more_congr {S S' : Sto} {e xt : TypeId} {x : AV} {r : List (List AV)} (hs : SR S S') (h : moreA P S e xt x = some r) : moreA P S' e xt x = some r := by
 unfold moreA at h ⊢
 split at h <;> first | exact h | exact rowsIn_congr hs h | cases h
theorem append_congr {how : Nat} {st xt : TypeId} {a b : AV} {s s' : St} {r : OR} (hw : how ≠ 2) (hs : SR s.S s'.S) (h : appendS P how st xt a b s = some r) : ∃ v, r = .val v s ∧ appendS P how st xt a b s' = some (.val v s') := by
 unfold appendS at h ⊢
 split at h
 ·rename_i e he
  split at h
  ·cases h
  ·rename_i z hz
   split at h
   ·rename_i hl
    rw [if_pos hl]
    cases hm : moreA P (if how = 0 then { heap := [], next := 0 } else s.S) e xt b with
    | none => rw [hm] at h; cases h
    | some more =>
     have hm' : moreA P (if how = 0 then { heap := [], next := 0 } else s'.S) e xt b = some more := by
      by_cases h0 : how = 0
      ·rw [if_pos h0] at hm ⊢; exact hm
      ·rw [if_neg h0] at hm ⊢; exact more_congr hs hm
     rw [hm] at h
     rw [hm']
     simp only [if_neg hw] at h ⊢
     cases ha : appInline P e a more with
     | none => rw [ha] at h; cases h
     | some v => rw [ha] at h; cases h; exact ⟨v, rfl, rfl⟩
   ·cases h
 ·cases h
theorem rdr_frz {pol : Pol} {f : FuncId} {o : Oper} (h : rdr pol f o = true) : frzSl pol f o = false := by
 unfold frzSl
 split
 ·rename_i hop hd
  unfold rdr at h
  rw [hop] at h
  simp only [Bool.not_eq_true'] at h
  unfold frzSl at h
  rw [hop, hd] at h
  exact h
 ·rfl
theorem opA_pure {pol : Pol} {f : FuncId} {pl : List Tmp} {o : Oper} {st : St} (hp : isPure o = true) (hfs : frzSl pol f o = false) :
  opA P pol f pl o st = (pureA P pol f o st.env).map fun v => .val v { st with env := stripAt st.env (consumed pol f o) } := by
 have hp0 := hp
 unfold opA
 unfold isPure at hp
 cases hop : o.op <;> simp only [hop] at hp ⊢ <;> try (exact if_pos hp0)
 case slice t x lo hi mx => exact if_neg (by simp [hfs])
 case call c =>
  obtain ⟨callee, args, ts⟩ := c
  cases callee with
  | value g => cases hp
  | invoke r m => cases hp
  | builtin b => cases b <;> simp only at hp ⊢ <;> first | exact if_pos hp0 | cases hp
 all_goals cases hp
def LookS (P : Program) (o : Oper) (st st' : St) : Prop :=
 (BxS st.env st'.env ∧ SR st.S st'.S) ∨ ∃ t a, o.op = .load t a ∧ ∀ v, loadA P st.S st.env t (adr st.env a) = some v → loadA P st'.S st'.env t (adr st.env a) = some v
theorem LookS.sr {o : Oper} {st st' : St} (h : LookS P o st st') (hn : ∀ t a, o.op ≠ .load t a) : BxS st.env st'.env ∧ SR st.S st'.S :=
 h.resolve_right (fun ⟨t, a, e, _⟩ => hn t a e)
theorem LookS.load {o : Oper} {st st' : St} (h : LookS P o st st') {t : TypeId} {a : Operand} (ho : o.op = .load t a) {v : AV} (hl : loadA P st.S st.env t (adr st.env a) = some v) : loadA P st'.S st'.env t (adr st.env a) = some v := by
 rcases h with ⟨h1, h2⟩ | ⟨t', a', e, h2⟩
 ·exact load_congr h1 h2 hl
 ·rw [ho] at e; cases e; exact h2 v hl
theorem opA_rdr {pol : Pol} {f : FuncId} {pl : List Tmp} {o : Oper} {st : St} {r : OR} (hr : rdr pol f o = true) (h : opA P pol f pl o st = some r) :
  ∃ v, r = .val v { st with env := stripAt st.env (consumed pol f o) } ∧ ∀ st' : St, Agree (tmpsOf o.op.operands.toList) st.env st'.env → (looksS o = true → LookS P o st st') →
   opA P pol f pl o st' = some (.val v { st' with env := stripAt st'.env (consumed pol f o) }) := by
 by_cases hp : isPure o = true
 ·rw [opA_pure hp (rdr_frz hr)] at h
  cases hv : pureA P pol f o st.env with
  | none => rw [hv] at h; cases h
  | some v =>
   rw [hv] at h; cases h
   refine ⟨v, rfl, fun st' ha _ => ?_⟩
   rw [opA_pure hp (rdr_frz hr), ← pureA_congr ha, hv]; rfl
 ·unfold rdr at hr
  unfold opA at h
  have od : ∀ {st' : St}, Agree (tmpsOf o.op.operands.toList) st.env st'.env → ∀ x ∈ o.op.operands.toList, opd st.env x = opd st'.env x := fun ha x hx => opd_congr ha (mem_tmps hx)
  have ot : ∀ {st' : St}, Agree (tmpsOf o.op.operands.toList) st.env st'.env → ∀ x ∈ o.op.operands.toList, opt st.env x = opt st'.env x := fun ha x hx => opt_congr ha (mem_tmps hx)
  have oa : ∀ {st' : St}, Agree (tmpsOf o.op.operands.toList) st.env st'.env → ∀ x ∈ o.op.operands.toList, adr st.env x = adr st'.env x := fun ha x hx => adr_congr ha (mem_tmps hx)
  cases hop : o.op <;> simp only [hop, Op.operands, Call.operands] at hr h od ot oa <;> first | exact absurd hr hp | skip
  case slice t x lo hi mx => exact absurd (by simp [isPure, hop]) hp
  case load t a =>
   have hc : consumed pol f o = [] := by simp [consumed, hop]
   rw [hc] at h ⊢
   simp only [stripAt] at h ⊢
   unfold loadS at h
   cases hd : o.dst with
   | none => rw [hd] at h; cases h
   | some d =>
    rw [hd] at h hr
    simp only [Bool.not_eq_true'] at h hr
    rw [hr] at h
    simp only [Bool.false_eq_true, if_false] at h
    cases hl : loadA P st.S st.env t (adr st.env a) with
    | none => rw [hl] at h; cases h
    | some v =>
     rw [hl] at h; cases h
     refine ⟨v, rfl, fun st' ha hs => ?_⟩
     have h1 := hs (by simp [looksS, hop])
     unfold opA
     simp only [hop, hc, stripAt]
     unfold loadS
     rw [hd]
     simp only [hr, Bool.false_eq_true, if_false]
     rw [← oa ha a (by simp)]
     rw [h1.load hop hl]; rfl
  case buildSlice t len ps =>
   split at h
   ·rename_i d v hd hb
    rw [hd] at hr
    simp only [Bool.not_eq_true', beq_eq_false_iff_ne, ne_eq] at hr
    rw [if_neg hr] at h
    cases h
    refine ⟨v, rfl, fun st' ha _ => ?_⟩
    unfold opA
    simp only [hop, hd]
    have : ps.toList.map (fun p => (p.1, opd st.env p.2)) = ps.toList.map (fun p => (p.1, opd st'.env p.2)) :=
     List.map_congr_left fun p hp => by rw [od ha p.2 (by simp; exact ⟨p.1, by simpa using hp⟩)]
    rw [← this, hb]
    simp only [if_neg hr]
   ·cases h
  case makeSlice t l c =>
   split at h
   ·rename_i d v hd hb
    rw [hd] at hr
    simp only [Bool.not_eq_true', beq_eq_false_iff_ne, ne_eq] at hr
    rw [if_neg hr] at h
    cases h
    refine ⟨v, rfl, fun st' ha _ => ?_⟩
    unfold opA
    simp only [hop, hd]
    rw [← od ha l (by simp), ← od ha c (by simp), hb]
    simp only [if_neg hr]
   ·cases h
  case convert src dst x =>
   cases hd : o.dst with
   | none => rw [hd] at h; cases h
   | some d =>
    rw [hd] at h
    simp only at h
    cases hv : convA P src dst (opt st.env x) with
    | some v =>
     rw [hv] at h
     cases h
     refine ⟨v, rfl, fun st' ha _ => ?_⟩
     unfold opA
     simp only [hop, hd]
     rw [← ot ha x (by simp), hv]
    | none =>
     rw [hv] at h
     simp only at h
     split at h
     ·cases h
     ·rename_i h0
      split at h
      ·rename_i e id es off len hu1 hu2 hx
       split at h
       ·rename_i hu3
        cases hro : rowsIn st.S 1 (.rsl id es off len) with
        | none => rw [hro] at h; cases h
        | some rows =>
         rw [hro] at h
         simp only at h
         cases hby : bytesOf? rows with
         | none => rw [hby] at h; cases h
         | some bs =>
          rw [hby] at h
          cases h
          refine ⟨.str bs, rfl, fun st' ha hs => ?_⟩
          obtain ⟨h1, h2⟩ := (hs (by simp [looksS, hop])).sr (by simp [hop])
          unfold opA
          simp only [hop, hd]
          rw [← ot ha x (by simp), hv, ← od ha x (by simp), hx]
          simp only [if_neg h0, hu1, hu2, hu3, rowsIn_congr h2 hro, hby]
          rfl
       ·cases h
      ·cases h
  case call c =>
   obtain ⟨callee, args, ts⟩ := c
   cases callee with
   | value g => simp only at hr; exact absurd hr hp
   | invoke r m => simp only at hr; exact absurd hr hp
   | builtin b =>
    cases b <;> simp only at hr h <;> first | exact absurd hr hp | skip
    case append =>
     split at h
     ·rename_i d a b s x ts' hd hargs hts
      rw [hd] at hr
      simp only [Bool.not_eq_true', beq_eq_false_iff_ne, ne_eq] at hr
      have hex : ∃ v, r = .val v { st with env := stripAt st.env (consumed pol f o) } := by
       obtain ⟨v, hv, _⟩ := append_congr (s' := { st with env := stripAt st.env (consumed pol f o) }) hr (SR.refl _) h
       exact ⟨v, hv⟩
      obtain ⟨v, rfl⟩ := hex
      refine ⟨v, rfl, fun st' ha hs => ?_⟩
      obtain ⟨h1, h2⟩ := (hs (by simp [looksS, hop])).sr (by simp [hop])
      obtain ⟨v', hv', h3⟩ := append_congr (s := { st with env := stripAt st.env (consumed pol f o) }) (s' := { st' with env := stripAt st'.env (consumed pol f o) }) hr h2 h
      cases hv'
      have ha' := ha
      unfold opA
      simp only [hop, hd, hargs, hts]
      have m1 : a ∈ args.toList := by rw [hargs]; simp
      have m2 : b ∈ args.toList := by rw [hargs]; simp
      rw [← ot ha' a (List.mem_of_mem_drop (i := 0) (by simpa using m1)), ← od ha' b (List.mem_of_mem_drop (i := 0) (by simpa using m2))]
      exact h3
     ·cases h
    case len =>
     split at h
     ·rename_i a t ts' hargs hts
      cases hl : lenA P st.S t (opd st.env a) with
      | none => rw [hl] at h; cases h
      | some v =>
       rw [hl] at h; cases h
       refine ⟨v, rfl, fun st' ha hs => ?_⟩
       obtain ⟨h1, h2⟩ := (hs (by simp [looksS, hop])).sr (by simp [hop])
       have ha' := ha
       unfold opA
       have m1 : a ∈ args.toList := by rw [hargs]; simp
       simp only [hop, hargs, hts]
       rw [← od ha' a (List.mem_of_mem_drop (i := 0) (by simpa using m1)), len_congr h2 hl]
       rfl
     ·cases h
end Go.Ab
namespace Go.Ab
variable {P : Program}
def setO (env : List AV) : Option (Nat × AV) → List AV
 | none => env
 | some (s, w) => env.set s w
def eff (env : List AV) (C : List Tmp) (so : Option (Nat × AV)) (dst : Option Tmp) (v : AV) : List AV :=
 match dst with
 | some d => (setO (stripAt env C) so).set d v
 | none => setO (stripAt env C) so
structure Like (L : List Tmp) (env env' : List AV) : Prop where
 at_ : ∀ t ∈ L, env'.getD t .undef = env.getD t .undef
 box : ∀ s cs, env.getD s .undef = .box cs → env'.getD s .undef = .box cs
theorem Like.agree {L : List Tmp} {env env' : List AV} (h : Like L env env') : Agree L env env' := fun t ht => .inl (h.at_ t ht).symm
theorem Like.bxs {L : List Tmp} {env env' : List AV} (h : Like L env env') : BxS env env' := fun s cs hs => ⟨cs, h.box s cs hs, rfl⟩
theorem look_put {id : Nat} {o : Obj} : ∀ {l : List (Nat × Obj)} {o0 : Obj}, Sto.look id l = some o0 → ∀ k, Sto.look k (Sto.putIn id o l) = if k = id then some o else Sto.look k l
 | [], o0, h, k => by cases h
 | (i, x) :: r, o0, h, k => by
  unfold Sto.look at h
  unfold Sto.putIn
  by_cases hi : i = id
  ·rw [if_pos hi]
   unfold Sto.look
   by_cases hk : k = id
   ·rw [if_pos hk, if_pos (by omega)]
   ·rw [if_neg hk, if_neg (by omega), if_neg (by omega)]
  ·rw [if_neg hi] at h ⊢
   unfold Sto.look
   rw [look_put h k]
   by_cases hk : k = id
   ·subst hk; simp [hi]
   ·simp [hk]
theorem get_put {S : Sto} {id : Nat} {o o0 : Obj} (h : S.get id = some o0) (k : Nat) : (S.put id o).get k = if k = id then some o else S.get k := look_put h k
theorem take_strip {t : TypeId} {off : Nat} {cs cs' : List AV} {v : AV} (h : takeCells P t off cs = some (v, cs')) : cs'.map AV.strip0 = cs.map AV.strip0 := by
 unfold takeCells at h
 cases hv : valAt P t (cs.drop off) with
 | none => rw [hv] at h; cases h
 | some v0 =>
  rw [hv] at h
  simp only [Option.ite_none_right_eq_some, Option.some.injEq, Prod.mk.injEq] at h
  obtain ⟨hok, rfl, rfl⟩ := h
  have hin : v0.cells = (cs.drop off).take v0.cells.length ∧ (v0.cells ≠ [] → off ≤ cs.length) := by
   unfold valAt at hv
   unfold aggT at hok
   have one : ∀ {x : AV}, (cs.drop off).head? = some x → isAggV x = false → x.cells = (cs.drop off).take x.cells.length ∧ (x.cells ≠ [] → off ≤ cs.length) := by
    intro x hx hn
    have hc : x.cells = [x] := by cases x <;> first | rfl | cases hn
    rw [hc]
    cases hd : cs.drop off with
    | nil => rw [hd] at hx; cases hx
    | cons a r =>
     rw [hd] at hx; cases hx
     refine ⟨rfl, fun _ => ?_⟩
     have := congrArg List.length hd
     simp at this; omega
   have agg : ∀ {x : AV}, (if P.cellsOf t ≤ (cs.drop off).length then some (AV.agg ((cs.drop off).take (P.cellsOf t))) else none) = some x → x.cells = (cs.drop off).take x.cells.length ∧ (x.cells ≠ [] → off ≤ cs.length) := by
    intro x hx
    split at hx
    ·cases hx
     simp only [AV.cells]
     refine ⟨?_, fun hne => ?_⟩
     ·rw [List.length_take, Nat.min_eq_left (by assumption)]
     ·refine Classical.byContradiction fun hgt => hne ?_
      rw [List.drop_eq_nil_of_le (by omega)]; simp
    ·cases hx
   cases hu : P.underlying t with
   | none => rw [hu] at hv; cases hv
   | some dd =>
    rw [hu] at hv hok
    cases dd <;> simp only [Bool.true_or, Bool.false_or, Bool.not_eq_true'] at hv hok <;> first | exact agg hv | exact one hv hok
  obtain ⟨h1, h2⟩ := hin
  by_cases hne : v0.cells = []
  ·rw [hne]; simp
  ·have hle := h2 hne
   have hid : (v0.cells.map AV.strip0).map AV.strip0 = v0.cells.map AV.strip0 := by simp [Function.comp_def, strip0_idem]
   rw [List.map_append, List.map_append, hid, ← List.map_append, ← List.map_append]
   congr 1
   have : cs = cs.take off ++ ((cs.drop off).take v0.cells.length ++ (cs.drop off).drop v0.cells.length) := by rw [List.take_append_drop, List.take_append_drop]
   rw [← h1] at this
   rw [List.drop_drop] at this
   rw [← List.append_assoc] at this
   exact this.symm
theorem mapPut_eff {t : TypeId} {m k x v : AV} {st st1 : St} (h : mapPutS P t m k x st = some (.val v st1)) : ∃ S', st1 = { st with S := S' } ∧ ∀ st' : St, st'.S = st.S → mapPutS P t m k x st' = some (.val v { st' with S := S' }) := by
 unfold mapPutS at h
 split at h
 ·rename_i kt et id hu
  split at h
  ·rename_i hk
   split at h
   ·rename_i es hg
    split at h
    ·rename_i ra hra
     cases hp : putA es k x ra with
     | none => rw [hp] at h; cases h
     | some es' =>
      rw [hp] at h; cases h
      refine ⟨st.S.put id (.map es'), rfl, fun st' hS => ?_⟩
      unfold mapPutS
      simp only [hu, hk, if_true, hS, hg, hra, hp, Option.map_some]
    ·cases h
   ·cases h
  ·cases h
 ·cases h
theorem mapDel_eff {t : TypeId} {m k v : AV} {st st1 : St} (h : mapDelS P t m k st = some (.val v st1)) : ∃ S', st1 = { st with S := S' } ∧ ∀ st' : St, st'.S = st.S → mapDelS P t m k st' = some (.val v { st' with S := S' }) := by
 unfold mapDelS at h
 split at h
 ·rename_i kt et id hu
  split at h
  ·rename_i hk
   split at h
   ·rename_i es hg
    cases hra : findA P kt k es 0 with
    | none => rw [hra] at h; cases h
    | some ra =>
     rw [hra] at h; cases h
     refine ⟨st.S.put id (.map (delA es ra)), rfl, fun st' hS => ?_⟩
     unfold mapDelS
     simp only [hu, hk, if_true, hS, hg, hra, Option.map_some]
   ·cases h
  ·cases h
 ·cases h
theorem copy_eff {t : TypeId} {a b v : AV} {st st1 : St} (h : copyS P t a b st = some (.val v st1)) : ∃ S', st1 = { st with S := S' } ∧ ∀ st' : St, st'.S = st.S → copyS P t a b st' = some (.val v { st' with S := S' }) := by
 unfold copyS at h ⊢
 split at h
 ·rename_i e id es off len hu
  split at h
  ·rename_i es' rows hg
   split at h
   ·rename_i more hsrc
    split at h
    ·rename_i hc
     cases h
     exact ⟨_, rfl, fun st' hS => by simp only [hu, hS, hg, hsrc, if_pos hc]⟩
    ·cases h
   ·cases h
  ·cases h
 ·cases h
theorem opA_wrt {pol : Pol} {f : FuncId} {pl : List Tmp} {o : Oper} {st st1 : St} {v : AV} (hw : rdr pol f o = true ∨ wrt pol f o = true) (h : opA P pol f pl o st = some (.val v st1)) :
  ∃ so S', st1 = { st with env := setO (stripAt st.env (consumed pol f o)) so, S := S' } ∧ (∀ s w, so = some (s, w) → ∃ cs cs', st.env.getD s .undef = .box cs ∧ w = .box cs' ∧ (isStore o = false → cs'.map AV.strip0 = cs.map AV.strip0)) ∧ (isStore o = false → SR st.S S') ∧ (isSt o = true → (lpOp o st.env = false → so = none) ∧ (lpOp o st.env = true → S' = st.S)) ∧
   ∀ st' : St, st'.S = st.S → Like (tmpsOf o.op.operands.toList) st.env st'.env → opA P pol f pl o st' = some (.val v { st' with env := setO (stripAt st'.env (consumed pol f o)) so, S := S' }) := by
 by_cases hr : rdr pol f o = true
 ·obtain ⟨v', he, hf⟩ := opA_rdr hr h
  cases he
  refine ⟨none, st.S, rfl, (fun _ _ e => nomatch e), fun _ => SR.refl _, fun _ => ⟨fun _ => rfl, fun _ => rfl⟩, fun st' hS hl => ?_⟩
  rw [hf st' hl.agree (fun _ => .inl ⟨hl.bxs, by rw [hS]; exact SR.refl _⟩), ← hS]
  rfl
 ·have hw := hw.resolve_left hr
  unfold wrt at hw
  unfold opA at h
  cases hop : o.op <;> simp only [hop, Op.operands, Call.operands] at hw h ⊢ <;> first | exact (Bool.false_ne_true hw).elim | skip
  case load t a =>
   have hc : consumed pol f o = [] := by simp [consumed, hop]
   have hst : isStore o = false := by simp [isStore, hop]
   rw [hc] at h ⊢
   simp only [stripAt] at h ⊢
   unfold loadS at h
   cases hd : o.dst with
   | none => rw [hd] at h; cases h
   | some d =>
    rw [hd] at h hw
    simp only at h hw
    rw [if_pos hw] at h
    have ha : ∀ {st' : St}, Like (tmpsOf [a]) st.env st'.env → adr st'.env a = adr st.env a := fun hl => (adr_congr hl.agree (mem_tmps (by simp))).symm
    split at h
    ·rename_i id off had
     split at h
     ·rename_i cs hg
      cases htc : takeCells P t off cs with
      | none => rw [htc] at h; cases h
      | some vc =>
       obtain ⟨v0, cs'⟩ := vc
       rw [htc] at h; cases h
       refine ⟨none, st.S.put id (.cells cs'), rfl, (fun _ _ e => nomatch e), fun _ => ?_, (fun hs => by simp [isSt, hop] at hs), fun st' hS hl => ?_⟩
       ·refine ⟨fun k c hk => ?_, fun k es rows hk => ?_, fun k es hk => ?_⟩
        ·rw [get_put hg]
         by_cases e : k = id
         ·subst e
          rw [hg] at hk; cases hk
          exact ⟨cs', by simp, take_strip htc⟩
         ·exact ⟨c, by simp [e, hk], rfl⟩
        ·rw [get_put hg]
         have : k ≠ id := by rintro rfl; rw [hg] at hk; cases hk
         simp [this, hk]
        ·rw [get_put hg]
         have : k ≠ id := by rintro rfl; rw [hg] at hk; cases hk
         exact ⟨es, by simp [this, hk], rfl⟩
       ·unfold opA
        simp only [hop, hc, stripAt]
        unfold loadS
        rw [hd]
        simp only [if_pos hw]
        rw [ha hl, had]
        simp only [hS, hg, htc]
        rfl
     ·cases h
    ·rename_i s off had
     split at h
     ·rename_i cs hg
      split at h
      ·cases h
      ·rename_i hne
       cases htc : takeCells P t off cs with
       | none => rw [htc] at h; cases h
       | some vc =>
        obtain ⟨v0, cs'⟩ := vc
        rw [htc] at h; cases h
        refine ⟨some (s, .box cs'), st.S, rfl, fun s' w e => ?_, fun _ => SR.refl _, (fun hs => by simp [isSt, hop] at hs), fun st' hS hl => ?_⟩
        ·cases e
         exact ⟨cs, cs', hg, rfl, fun _ => take_strip htc⟩
        ·unfold opA
         simp only [hop, hc, stripAt]
         unfold loadS
         rw [hd]
         simp only [if_pos hw]
         rw [ha hl, had]
         simp only [hl.box _ _ hg, if_neg hne, htc, setO]
         rw [← hS]
         rfl
     ·cases h
    ·cases h
  case store t a x =>
   have hc : consumed pol f o = tmpsOf [x] := by simp [consumed, hop]
   have hst : isStore o = true := by simp [isStore, hop]
   rw [hc] at h ⊢
   unfold storeS at h
   have ha : ∀ {st' : St}, Like (tmpsOf [a, x]) st.env st'.env → adr st'.env a = adr st.env a := fun hl => (adr_congr hl.agree (mem_tmps (by simp))).symm
   have hx : ∀ {st' : St}, Like (tmpsOf [a, x]) st.env st'.env → opt st'.env x = opt st.env x := fun hl => (opt_congr hl.agree (mem_tmps (by simp))).symm
   split at h
   ·rename_i id off had
    split at h
    ·rename_i cs hg
     cases hwc : writeCells P t off cs (opt st.env x) with
     | none => rw [hwc] at h; cases h
     | some cs' =>
      rw [hwc] at h; cases h
      refine ⟨none, st.S.put id (.cells cs'), rfl, (fun _ _ e => nomatch e), (fun hn => by rw [hst] at hn; cases hn), (fun _ => ⟨fun _ => rfl, fun h => by simp [lpOp, plcOf, hop, had] at h⟩), fun st' hS hl => ?_⟩
      unfold opA
      simp only [hop, hc]
      unfold storeS
      rw [ha hl, had, hx hl]
      simp only [hS, hg, hwc]
      rfl
    ·cases h
   ·rename_i s off had
    split at h
    ·rename_i cs hg
     cases hwc : writeCells P t off cs (opt st.env x) with
     | none => rw [hwc] at h; cases h
     | some cs' =>
      rw [hwc] at h; cases h
      have hsx : s ∉ tmpsOf [x] := by
       intro hm
       cases x with
       | tmp t' =>
        simp [tmpsOf] at hm
        subst hm
        simp only [opt] at hwc
        have : st.env.getD s .undef = .box cs := by
         have h0 := hg
         simp only [tmpsOf, List.filterMap_cons, List.filterMap_nil, stripAt] at h0
         simp only [List.getD_eq_getElem?_getD, List.getElem?_set] at h0
         split at h0
         ·split at h0
          ·simp only [Option.getD_some] at h0
           exfalso
           revert h0
           cases (st.env[s]?).getD AV.undef <;> simp [AV.strip, AV.strip1, AV.strip0]
          ·simp [AV.undef] at h0
         ·rename_i hne; exact absurd trivial hne
        rw [this] at hwc
        simp [writeCells, AV.clr, okTop] at hwc
       | _ => simp [tmpsOf] at hm
      have hge : ∀ env : List AV, (stripAt env (tmpsOf [x])).getD s .undef = env.getD s .undef := by
       intro env
       simp only [List.getD_eq_getElem?_getD]
       rw [stripAt_out _ _ _ hsx]
      refine ⟨some (s, .box cs'), st.S, rfl, fun s' w e => ?_, (fun hn => by rw [hst] at hn; cases hn), (fun _ => ⟨fun h => by simp [lpOp, plcOf, hop, had] at h, fun _ => rfl⟩), fun st' hS hl => ?_⟩
      ·cases e
       exact ⟨cs, cs', by rw [← hge]; exact hg, rfl, fun hn => by rw [hst] at hn; cases hn⟩
      ·unfold opA
       simp only [hop, hc]
       unfold storeS
       rw [ha hl, had, hx hl]
       simp only [hge, hl.box _ _ ((hge _).symm.trans hg), hwc, setO]
       rw [← hS]
       rfl
    ·cases h
   ·rename_i id r off had
    split at h
    ·rename_i es rows hg
     split at h
     ·rename_i row hrow
      cases hwc : writeCells P t off row (opt st.env x).strip1 with
      | none => rw [hwc] at h; cases h
      | some row' =>
       rw [hwc] at h; cases h
       refine ⟨none, st.S.put id (.arr es (rows.set r row')), rfl, (fun _ _ e => nomatch e), (fun hn => by rw [hst] at hn; cases hn), (fun _ => ⟨fun _ => rfl, fun h => by simp [lpOp, plcOf, hop, had] at h⟩), fun st' hS hl => ?_⟩
       unfold opA
       simp only [hop, hc]
       unfold storeS
       rw [ha hl, had, hx hl]
       simp only [hS, hg, hrow, hwc]
       rfl
     ·cases h
    ·cases h
   ·cases h
  case call c =>
   obtain ⟨callee, args, ts⟩ := c
   cases callee with
   | value g =>
    simp only [Bool.not_eq_true'] at h hw
    rw [hw] at h
    simp only [Bool.false_eq_true, if_false] at h
    cases hca : calleeA (argsA st.env args.toList) (opd st.env g) with
    | none => rw [hca] at h; cases h
    | some ta => obtain ⟨t, as⟩ := ta; rw [hca] at h; cases h
   | invoke r m => simp at h
   | builtin b =>
    cases b <;> simp only at hw h <;> first | exact (Bool.false_ne_true hw).elim | skip
    case copy =>
     have hst : isStore o = true := by simp [isStore, hop]
     have hc : consumed pol f o = [] := by simp [consumed, hop]
     rw [hc] at h ⊢
     split at h
     ·rename_i a b t ts' hma htt
      have hl : ∀ {st' : St} (x : Operand), x ∈ args.toList → Like (tmpsOf args.toList) st.env st'.env → opd st'.env x = opd st.env x := fun x hx hl => (opd_congr hl.agree (mem_tmps hx)).symm
      obtain ⟨S', rfl, h2⟩ := copy_eff h
      refine ⟨none, S', rfl, (fun _ _ e => nomatch e), (fun hn => by rw [hst] at hn; cases hn), (fun hs => by simp [isSt, hop] at hs), fun st' hS hl' => ?_⟩
      have hl2 : Like (tmpsOf args.toList) st.env st'.env := by simpa using hl'
      unfold opA
      simp only [hop, hc, hma, htt]
      rw [hl a (by rw [hma]; simp) hl2, hl b (by rw [hma]; simp) hl2]
      exact h2 _ hS
     ·cases h
    have hst : isStore o = true := by simp [isStore, hop]
    have hc : consumed pol f o = [] := by simp [consumed, hop]
    rw [hc] at h ⊢
    split at h
    ·rename_i m k t ts' hma htt
     have hl : ∀ {st' : St} (x : Operand), x ∈ args.toList → Like (tmpsOf args.toList) st.env st'.env → opd st'.env x = opd st.env x := fun x hx hl => (opd_congr hl.agree (mem_tmps hx)).symm
     obtain ⟨S', rfl, h2⟩ := mapDel_eff h
     refine ⟨none, S', rfl, (fun _ _ e => nomatch e), (fun hn => by rw [hst] at hn; cases hn), (fun hs => by simp [isSt, hop] at hs), fun st' hS hl' => ?_⟩
     have hl2 : Like (tmpsOf args.toList) st.env st'.env := by simpa using hl'
     unfold opA
     simp only [hop, hc, hma, htt]
     rw [hl m (by rw [hma]; simp) hl2, hl k (by rw [hma]; simp) hl2]
     exact h2 _ hS
    ·cases h
  case alloc t =>
   have hst : isStore o = true := by simp [isStore, hop]
   have hc : consumed pol f o = [] := by simp [consumed, hop]
   rw [hc] at h ⊢
   cases hz : zeroA P t with
   | none => rw [hz] at h; cases h
   | some z =>
    rw [hz] at h
    cases hd : o.dst with
    | none => rw [hd] at hw; cases hw
    | some d =>
     rw [hd] at hw h
     simp only [Bool.not_eq_true'] at hw
     simp only [newVarA, hw, Bool.false_eq_true, if_false, Option.some.injEq, OR.val.injEq] at h
     obtain ⟨rfl, rfl⟩ := h
     refine ⟨none, st.S.new (.cells z.cells), rfl, (fun _ _ e => nomatch e), (fun hn => by rw [hst] at hn; cases hn), (fun hs => by simp [isSt, hop] at hs), fun st' hS hl => ?_⟩
     unfold opA
     simp only [hop, hc, hz, hd, newVarA, hw, Bool.false_eq_true, if_false, hS]
     rfl
  case box t x =>
   have hst : isStore o = true := by simp [isStore, hop]
   have hc : consumed pol f o = tmpsOf [x] := by simp [consumed, hop]
   rw [hc] at h ⊢
   have hx : ∀ {st' : St}, Like (tmpsOf [x]) st.env st'.env → opt st'.env x = opt st.env x := fun hl => (opt_congr hl.agree (mem_tmps (by simp))).symm
   split at h
   ·rename_i hk
    cases hd : o.dst with
    | none => rw [hd] at hw; cases hw
    | some d =>
     rw [hd] at hw h
     simp only [Bool.not_eq_true'] at hw
     simp only [newVarA, hw, Bool.false_eq_true, if_false, Option.some.injEq, OR.val.injEq] at h
     obtain ⟨rfl, rfl⟩ := h
     refine ⟨none, st.S.new (.cells (opt st.env x).cells), rfl, (fun _ _ e => nomatch e), (fun hn => by rw [hst] at hn; cases hn), (fun hs => by simp [isSt, hop] at hs), fun st' hS hl => ?_⟩
     unfold opA
     simp only [hop, hc, hx hl, hd]
     rw [if_pos hk]
     simp only [newVarA, hw, Bool.false_eq_true, if_false, hS]
     rfl
   ·cases h
  case makeMap t r =>
   cases r with
   | some r => cases hw
   | none =>
    have hst : isStore o = true := by simp [isStore, hop]
    have hc : consumed pol f o = [] := by simp [consumed, hop]
    rw [hc] at h ⊢
    cases h
    refine ⟨none, st.S.new (.map []), rfl, (fun _ _ e => nomatch e), (fun hn => by rw [hst] at hn; cases hn), (fun hs => by simp [isSt, hop] at hs), fun st' hS hl => ?_⟩
    unfold opA
    simp only [hop, hc, hS]
    rfl
  case lookup t m k ok =>
   have hc : consumed pol f o = [] := by simp [consumed, hop]
   rw [hc] at h ⊢
   simp only [show (stripAt st.env []) = st.env from rfl] at h
   cases hv : lookA P st.S t (opd st.env m) (opd st.env k) ok with
   | none => rw [hv] at h; cases h
   | some v1 =>
    rw [hv] at h; cases h
    refine ⟨none, st.S, rfl, (fun _ _ e => nomatch e), fun _ => SR.refl _, (fun hs => by simp [isSt, hop] at hs), fun st' hS hl => ?_⟩
    have hm : opd st'.env m = opd st.env m := (opd_congr hl.agree (mem_tmps (by simp))).symm
    have hk : opd st'.env k = opd st.env k := (opd_congr hl.agree (mem_tmps (by simp))).symm
    unfold opA
    simp only [hop, hc, hm, hk, show (stripAt st'.env []) = st'.env from rfl, hS, hv, Option.map_some, setO]
    try rw [← hS]
  case mapUpdate t m k x =>
   have hst : isStore o = true := by simp [isStore, hop]
   have hc : consumed pol f o = [] := by simp [consumed, hop]
   rw [hc] at h ⊢
   obtain ⟨S', rfl, h2⟩ := mapPut_eff h
   refine ⟨none, S', rfl, (fun _ _ e => nomatch e), (fun hn => by rw [hst] at hn; cases hn), (fun hs => by simp [isSt, hop] at hs), fun st' hS hl => ?_⟩
   have hm : opd st'.env m = opd st.env m := (opd_congr hl.agree (mem_tmps (by simp))).symm
   have hk : opd st'.env k = opd st.env k := (opd_congr hl.agree (mem_tmps (by simp))).symm
   have hx : opd st'.env x = opd st.env x := (opd_congr hl.agree (mem_tmps (by simp))).symm
   unfold opA
   simp only [hop, hc, hm, hk, hx]
   exact h2 _ hS
  case insert t m k x =>
   have hst : isStore o = true := by simp [isStore, hop]
   have hc : consumed pol f o = [] := by simp [consumed, hop]
   rw [hc] at h ⊢
   obtain ⟨S', rfl, h2⟩ := mapPut_eff h
   refine ⟨none, S', rfl, (fun _ _ e => nomatch e), (fun hn => by rw [hst] at hn; cases hn), (fun hs => by simp [isSt, hop] at hs), fun st' hS hl => ?_⟩
   have hm : opd st'.env m = opd st.env m := (opd_congr hl.agree (mem_tmps (by simp))).symm
   have hk : opd st'.env k = opd st.env k := (opd_congr hl.agree (mem_tmps (by simp))).symm
   have hx : opd st'.env x = opd st.env x := (opd_congr hl.agree (mem_tmps (by simp))).symm
   unfold opA
   simp only [hop, hc, hm, hk, hx]
   exact h2 _ hS
theorem opA_wcallA {pol : Pol} {f : FuncId} {pl : List Tmp} {o : Oper} {st st1 : St} {t : Tgt} {as : List AV} (h : opA P pol f pl o st = some (.call t as st1)) :
  st1 = { st with env := stripAt st.env (consumed pol f o) } ∧ ∀ st' : St, Agree (tmpsOf o.op.operands.toList) st.env st'.env → opA P pol f pl o st' = some (.call t as { st' with env := stripAt st'.env (consumed pol f o) }) := by
 rcases opA_call h with ⟨g, args, ts, hop, hcl, hc, rfl⟩ | ⟨r, m, args, ts, hop, hc, rfl⟩
 rotate_left
 ·have hcons : consumed pol f o = [] := by simp [consumed, hop]
  refine ⟨by rw [hcons]; rfl, fun st' ha => ?_⟩
  rw [hop] at ha
  have e1 : args.toList.map (opd st'.env) = args.toList.map (opd st1.env) := List.map_congr_left fun x hx => (opd_congr ha (mem_tmps (by simp [Op.operands, Call.operands]; right; simpa using hx))).symm
  have e2 : opd st'.env r = opd st1.env r := (opd_congr ha (mem_tmps (by simp [Op.operands, Call.operands]))).symm
  unfold opA
  simp only [hop, e1, e2, hc]
  rfl
 have hcons : consumed pol f o = tmpsOf args.toList := by simp [consumed, hop]
 refine ⟨by rw [hcons], fun st' ha => ?_⟩
 rw [hop] at ha
 have e1 : argsA st'.env args.toList = argsA st.env args.toList := by
  refine List.map_congr_left fun x hx => ?_
  have hx' : x ∈ (Op.call { callee := .value g, args := args, argTypes := ts }).operands.toList := by simp [Op.operands, Call.operands]; right; simpa using hx
  rw [opt_congr ha (mem_tmps hx'), opd_congr ha (mem_tmps hx')]
 have e2 : opd st'.env g = opd st.env g := (opd_congr ha (mem_tmps (by simp [Op.operands, Call.operands]))).symm
 unfold opA
 simp only [hop, hcl, Bool.false_eq_true, if_false, e1, e2, hc]
 rfl
theorem opA_wcall {pol : Pol} {f : FuncId} {pl : List Tmp} {o : Oper} {st st1 : St} {t : Tgt} {as : List AV} (h : opA P pol f pl o st = some (.call t as st1)) :
  st1 = { st with env := stripAt st.env (consumed pol f o) } ∧ ∀ st' : St, Like (tmpsOf o.op.operands.toList) st.env st'.env → opA P pol f pl o st' = some (.call t as { st' with env := stripAt st'.env (consumed pol f o) }) :=
 ⟨(opA_wcallA h).1, fun st' hl => (opA_wcallA h).2 st' hl.agree⟩
theorem wanted_congr {ops : Array Oper} {o : Oper} {env env' : List AV} {r : Bool} (h : wantedA ops o env = some r) (ha : Agree (looksA ops o) env env') : wantedA ops o env' = some r := by
 unfold wantedA at h ⊢
 unfold looksA at ha
 cases hg : o.guard with
 | none => rw [hg] at h; exact h
 | some jw =>
  obtain ⟨j, want⟩ := jw
  rw [hg] at h ha
  simp only at h ⊢
  cases hd : (ops[j]?).bind (·.dst) with
  | none => rw [hd] at h; exact h
  | some d =>
   rw [hd] at h
   simp only at h ⊢
   have := ha d (by simp [hd])
   rcases this with e | ⟨cs, cs', e1, e2⟩
   ·rw [← e]; exact h
   ·rw [e1] at h; cases h
end Go.Ab
namespace Go.Ab
variable {P : Program}
def wrFull (pol : Pol) (f : FuncId) (ops : Array Oper) : List Tmp := ops.toList.flatMap fun o => o.dst.toList ++ consumed pol f o
def wrAll (pol : Pol) (f : FuncId) (ops : Array Oper) : List Tmp := ops.toList.flatMap fun o => (if locA pol f o then [] else o.dst.toList) ++ consumed pol f o
theorem not_loc {pol : Pol} {f : FuncId} {o : Oper} (h : rdr pol f o = true ∨ wrt pol f o = true) : locA pol f o = false := by
 unfold locA
 split
 ·rename_i t hop
  split
  ·rename_i d hd
   rcases h with h | h
   ·simp [rdr, hop, isPure] at h
   ·simpa [wrt, hop, hd] using h
  ·rfl
 ·rename_i t x hop
  split
  ·rename_i d hd
   rcases h with h | h
   ·simp [rdr, hop, isPure] at h
   ·simpa [wrt, hop, hd] using h
  ·rfl
 ·rfl
def NB (T : List Tmp) (env : List AV) : Prop := ∀ t ∈ T, ∀ cs, env.getD t .undef ≠ .box cs
theorem getD_set {env : List AV} {t s : Nat} {w : AV} : (env.set s w).getD t .undef = if s = t ∧ t < env.length then w else env.getD t .undef := by
 simp only [List.getD_eq_getElem?_getD, List.getElem?_set]
 by_cases h : s = t
 ·subst h
  by_cases hl : s < env.length
  ·simp [hl]
  ·simp [hl]
 ·simp [h]
theorem strip_nb (v : AV) (cs : List AV) : v.strip ≠ .box cs := by cases v <;> simp [AV.strip, AV.strip1, AV.strip0]
theorem setO_none (env : List AV) : setO env none = env := rfl
theorem stripAt_getD : ∀ (C : List Tmp) (env : List AV) (t : Nat), (stripAt env C).getD t .undef = if t ∈ C ∧ t < env.length then (env.getD t .undef).strip else env.getD t .undef
 | [], env, t => by simp [stripAt]
 | c :: C, env, t => by
  unfold stripAt
  rw [stripAt_getD C, getD_set, List.length_set]
  by_cases hl : t < env.length
  ·by_cases hc : c = t
   ·subst hc
    by_cases hm : c ∈ C
    ·simp [hm, hl, strip_idem]
    ·simp [hm, hl]
   ·have : ¬ t = c := fun e => hc e.symm
    simp [hc, this, hl]
  ·simp [hl]
theorem eff_length (env : List AV) (C : List Tmp) (so : Option (Nat × AV)) (dst : Option Tmp) (v : AV) : (eff env C so dst v).length = env.length := by
 have hs : ∀ e : List AV, (setO e so).length = e.length := by intro e; cases so <;> simp [setO]
 unfold eff
 cases dst <;> simp [hs, stripAt_length]
theorem setO_getD {env : List AV} {so : Option (Nat × AV)} {t : Nat} (h : ∀ s w, so = some (s, w) → s ≠ t) : (setO env so).getD t .undef = env.getD t .undef := by
 cases so with
 | none => rfl
 | some sw =>
  obtain ⟨s, w⟩ := sw
  simp only [setO, getD_set]
  rw [if_neg]; rintro ⟨e, _⟩; exact h s w rfl e
theorem eff_out {env : List AV} {C : List Tmp} {so : Option (Nat × AV)} {dst : Option Tmp} {v : AV} {t : Nat} (hc : t ∉ C) (hd : dst ≠ some t) (hs : ∀ s w, so = some (s, w) → s ≠ t) : (eff env C so dst v).getD t .undef = env.getD t .undef := by
 unfold eff
 cases dst with
 | none => simp only; rw [setO_getD hs, stripAt_getD, if_neg (fun h => hc h.1)]
 | some d =>
  simp only
  rw [getD_set, if_neg (by rintro ⟨e, _⟩; exact hd (by rw [e])), setO_getD hs, stripAt_getD, if_neg (fun h => hc h.1)]
theorem stripAt_set {t : Nat} {w : AV} : ∀ (C : List Tmp) (env : List AV), t ∉ C → stripAt (env.set t w) C = (stripAt env C).set t w
 | [], _, _ => rfl
 | c :: C, env, h => by
  simp only [List.mem_cons, not_or] at h
  unfold stripAt
  rw [getD_set, if_neg (fun e => h.1 e.1), List.set_comm _ _ h.1, stripAt_set C _ h.2]
theorem stripAt_comm : ∀ (D C : List Tmp) (env : List AV), (∀ t ∈ D, t ∉ C) → stripAt (stripAt env C) D = stripAt (stripAt env D) C
 | [], _, _, _ => rfl
 | d :: D, C, env, h => by
  have hd := h d (by simp)
  have e1 : stripAt (stripAt env C) (d :: D) = stripAt ((stripAt env C).set d ((stripAt env C).getD d .undef).strip) D := rfl
  have e2 : stripAt env (d :: D) = stripAt (env.set d (env.getD d .undef).strip) D := rfl
  rw [e1, e2, stripAt_getD, if_neg (fun e => hd e.1), ← stripAt_set C env hd, stripAt_comm D C _ (fun t ht => h t (by simp [ht]))]
theorem set_so {env : List AV} {so : Option (Nat × AV)} {d : Nat} {v : AV} (h : ∀ s w, so = some (s, w) → s ≠ d) : (setO env so).set d v = setO (env.set d v) so := by
 cases so with
 | none => rfl
 | some sw => obtain ⟨s, w⟩ := sw; exact List.set_comm _ _ (h s w rfl)
theorem strip_so {env : List AV} {so : Option (Nat × AV)} {C : List Tmp} (h : ∀ s w, so = some (s, w) → s ∉ C) : stripAt (setO env so) C = setO (stripAt env C) so := by
 cases so with
 | none => rfl
 | some sw => obtain ⟨s, w⟩ := sw; exact stripAt_set C env (h s w rfl)
theorem eff_comm {env : List AV} {Cx Cy : List Tmp} {so : Option (Nat × AV)} {dx dy : Option Tmp} {vx vy : AV} (h1 : ∀ t ∈ Cy, t ∉ Cx) (h2 : ∀ d, dx = some d → d ∉ Cy) (h3 : ∀ d, dy = some d → d ∉ Cx) (h4 : ∀ d, dx = some d → dy ≠ some d)
  (h5 : ∀ s w, so = some (s, w) → s ∉ Cx ∧ dx ≠ some s) : eff (eff env Cx none dx vx) Cy so dy vy = eff (eff env Cy so dy vy) Cx none dx vx := by
 unfold eff
 cases dx with
 | none =>
  cases dy with
  | none =>
   simp only [setO_none]
   rw [stripAt_comm Cy Cx _ h1, strip_so (fun s w e => (h5 s w e).1)]
  | some d =>
   simp only [setO_none]
   rw [stripAt_set _ _ (h3 d rfl), stripAt_comm Cy Cx _ h1, strip_so (fun s w e => (h5 s w e).1)]
 | some dd =>
  cases dy with
  | none =>
   simp only [setO_none]
   rw [stripAt_set _ _ (h2 dd rfl), stripAt_comm Cy Cx _ h1, strip_so (fun s w e => (h5 s w e).1), set_so (fun s w e hh => (h5 s w e).2 (by rw [hh]))]
  | some d =>
   have hne : dd ≠ d := fun e => h4 dd rfl (by rw [e])
   simp only [setO_none]
   rw [stripAt_set _ _ (h2 dd rfl), stripAt_set _ _ (h3 d rfl), stripAt_comm Cy Cx _ h1, strip_so (fun s w e => (h5 s w e).1), ← set_so (fun s w e hh => (h5 s w e).2 (by rw [hh])), List.set_comm _ _ hne]
theorem left_nb {o : Oper} {v : AV} (h : notBox v = true) (cs : List AV) : leftA o v ≠ .box cs := by
 unfold leftA
 split
 ·rintro rfl; cases h
 ·cases v <;> simp [AV.noLp] <;> cases h
theorem puts_eff (st : St) (C : List Tmp) (so : Option (Nat × AV)) (S' : Sto) (dst : Option Tmp) (v : AV) : ({ st with env := setO (stripAt st.env C) so, S := S' } : St).puts dst v = { st with env := eff st.env C so dst v, S := S' } := by
 cases dst <;> rfl
theorem puts_eff0 (st : St) (dst : Option Tmp) (v : AV) : st.puts dst v = { st with env := eff st.env [] none dst v } := by cases dst <;> rfl
theorem looksA_agree {ops : Array Oper} {o : Oper} {env env' : List AV} (h : Agree (looksA ops o) env env') : Agree (tmpsOf o.op.operands.toList) env env' := fun t ht => h t (List.mem_append_left _ ht)
theorem looksA_like {ops : Array Oper} {o : Oper} {env env' : List AV} (h : Like (looksA ops o) env env') : Like (tmpsOf o.op.operands.toList) env env' := ⟨fun t ht => h.at_ t (List.mem_append_left _ ht), h.box⟩
def FreeOK (H : Handler) : Prop := ∀ {g : FuncId} {args : List AV} {S : Sto} {e : AEnd} {S' : Sto}, H.free g = true → H.call (.func g) args S = some (e, S') → ∃ v k, e = .ret v ∧ S' = { heap := S.heap, next := k } ∧ ∀ S2 : Sto, S2.next = S.next → H.call (.func g) args S2 = some (e, { heap := S2.heap, next := k })
theorem SR.next (S : Sto) (k : Nat) : SR S { heap := S.heap, next := k } := ⟨fun _ cs h => ⟨cs, h, rfl⟩, fun _ _ _ h => h, fun _ es h => ⟨es, h, rfl⟩⟩
theorem freeCall_tgt {H : Handler} {pol : Pol} {f : FuncId} {pl : List Tmp} {o : Oper} {st st1 : St} {t : Tgt} {as : List AV} (hf : freeCall H.free o = true) (h : opA P pol f pl o st = some (.call t as st1)) : ∃ g, t = .func g ∧ H.free g = true := by
 rcases opA_call h with ⟨g, args, ts, hop, hcl, hc, hst⟩ | ⟨r, m, args, ts, hop, _⟩
 rotate_left
 ·simp [freeCall, hop] at hf
 clear hcl hst
 unfold freeCall at hf
 rw [hop] at hf
 cases g <;> simp only at hf <;> try cases hf
 rename_i g
 have ho : opd st.env (.func g) = .fn (.func g) [] [] := rfl
 rw [ho] at hc
 simp only [calleeA, Option.some.injEq, Prod.mk.injEq] at hc
 exact ⟨g, hc.1.symm, hf⟩
section
variable {H : Handler} {pol : Pol} {f : FuncId} {ops : Array Oper} {tab : List (Nat × Nat)} {need : Need} {pl : List Tmp}
theorem plc_mem {o : Oper} {a : Operand} (h : plcOf o = some a) : a ∈ o.op.operands.toList := by
 unfold plcOf at h
 split at h
 ·rename_i hop; cases h; simp [hop, Op.operands]
 ·rename_i hop; cases h; simp [hop, Op.operands]
 ·cases h
theorem lpOp_congr {o : Oper} {env env' : List AV} (ha : Agree (tmpsOf o.op.operands.toList) env env') : lpOp o env' = lpOp o env := by
 unfold lpOp
 split
 ·rename_i a hp
  rw [← adr_congr ha (x := a) (mem_tmps (plc_mem hp))]
 ·rfl
theorem ownOK_congr {ow hp : List Nat} {i : Nat} {o : Oper} {env env' : List AV} (ha : Agree (tmpsOf o.op.operands.toList) env env') : ownOK ow hp i o env' = ownOK ow hp i o env := by
 unfold ownOK
 rw [lpOp_congr ha]
theorem lp_load {S S' : Sto} {env env' : List AV} {t : TypeId} {s off : Nat} {v : AV} (hb : BxS env env') (h : loadA P S env t (.lptr s off) = some v) : loadA P S' env' t (.lptr s off) = some v := by
 simp only [loadA] at h ⊢
 split at h
 ·rename_i cs hg
  obtain ⟨cs', h1, h2⟩ := hb _ _ hg
  simp only [h1]
  rw [List.map_drop, h2, ← List.map_drop]; exact h
 ·cases h
theorem hp_load {S : Sto} {env env' : List AV} {t : TypeId} {a v : AV} (hn : ∀ s off, a ≠ .lptr s off) (h : loadA P S env t a = some v) : loadA P S env' t a = some v := by
 unfold loadA at h ⊢
 split at h
 ·exact h
 ·exact absurd rfl (hn _ _)
 ·exact h
 ·exact h
 ·cases h
theorem lp_some {o : Oper} {env : List AV} (h : lpOp o env = true) {t : TypeId} {a : Operand} (ho : o.op = .load t a) : ∃ s off, adr env a = .lptr s off := by
 simp only [lpOp, plcOf, ho] at h
 split at h
 ·rename_i s off had; exact ⟨s, off, had⟩
 ·cases h
theorem lp_none {o : Oper} {env : List AV} (h : lpOp o env = false) {t : TypeId} {a : Operand} (ho : o.op = .load t a) : ∀ s off, adr env a ≠ .lptr s off := by
 intro s off had
 simp [lpOp, plcOf, ho, had] at h
theorem own_yes {ow hp : List Nat} {i : Nat} {o : Oper} {env : List AV} (h : ownOK ow hp i o env = true) (hi : ow.contains i = true) : lpOp o env = true := by
 simp only [ownOK, hi, Bool.not_true, Bool.false_or, Bool.and_eq_true] at h
 exact h.1
theorem hp_yes {ow hp : List Nat} {i : Nat} {o : Oper} {env : List AV} (h : ownOK ow hp i o env = true) (hi : hp.contains i = true) : lpOp o env = false := by
 simp only [ownOK, hi, Bool.not_true, Bool.false_or, Bool.and_eq_true, Bool.not_eq_true'] at h
 exact h.2
theorem one_rdr {i : Nat} {o : Oper} {st st1 : St} {e : AExit} (ho : ops[i]? = some o) (hr : rdr pol f o = true) (h : evOne P H pol f ops need pl i st = some (e, st1)) :
  e = .normal ∧ ∃ C v, (∀ t ∈ C, t ∈ consumed pol f o) ∧ (∀ cs, v ≠ .box cs) ∧ st1 = { st with env := eff st.env C none o.dst v } ∧
   (∀ st' : St, Agree (looksA ops o) st.env st'.env → (wantedA ops o st.env = some true → looksS o = true → LookS P o st st') → evOne P H pol f ops need pl i st' = some (.normal, { st' with env := eff st'.env C none o.dst v })) ∧
   (wantedA ops o st.env = some true → ownOK need.own need.hp i o st.env = true) := by
 unfold evOne at h
 simp only [opK_eq] at h
 simp only [ho] at h
 cases hw : wantedA ops o st.env with
 | none => rw [hw] at h; cases h
 | some w =>
  rw [hw] at h
  cases w with
  | false =>
   cases h
   refine ⟨rfl, [], .undef, by simp, by simp [AV.undef], puts_eff0 _ _ _, fun st' ha _ => ?_, fun e => by cases e⟩
   unfold evOne
   simp only [opK_eq]
   simp only [ho, wanted_congr hw ha]
   rw [puts_eff0]
  | true =>
   simp only at h
   cases hop : opA P pol f pl o st with
   | none => rw [hop] at h; cases h
   | some r =>
    obtain ⟨v, rfl, hf⟩ := opA_rdr hr hop
    rw [hop] at h
    simp only at h
    split at h
    ·rename_i hn0
     rw [Bool.and_eq_true] at hn0
     obtain ⟨hn0, hown⟩ := hn0
     have hn : notBox v = true := by simpa [not_loc (.inl hr)] using hn0
     cases h
     refine ⟨rfl, consumed pol f o, leftA o v, fun _ h => h, left_nb hn, ?_, fun st' ha hs => ?_, fun _ => hown⟩
     ·exact puts_eff st _ none st.S _ _
     ·unfold evOne
      simp only [opK_eq]
      simp only [ho, wanted_congr hw ha, hf st' (looksA_agree ha) (hs rfl), hn, ownOK_congr (looksA_agree ha), hown, Bool.true_or, Bool.and_self, if_true]
      exact congrArg some (congrArg (Prod.mk AExit.normal) (puts_eff st' _ none st'.S _ _))
    ·cases h
def FixS (env : List AV) (fx : List Nat) (S S' : Sto) : Prop := ∀ t ∈ fx, (∀ id off, env.getD t .undef = .ptr id off → ∀ cs, S.get id = some (.cells cs) → ∃ cs', S'.get id = some (.cells cs') ∧ cs'.map AV.strip0 = cs.map AV.strip0) ∧
 ∀ id r off, env.getD t .undef = .aptr id r off → ∀ es rows, S.get id = some (.arr es rows) → S'.get id = some (.arr es rows)
theorem SR.fix {S S' : Sto} (h : SR S S') (env : List AV) (fx : List Nat) : FixS env fx S S' := fun _ _ => ⟨fun id _ _ cs hc => h.cells id cs hc, fun id _ _ _ es rows hr => h.arr id es rows hr⟩
theorem sameFix_fix {env : List AV} {fx : List Nat} {S S' : Sto} (h : sameFix env fx S S' = true) : FixS env fx S S' := by
 intro t ht
 have h1 := List.all_eq_true.1 h t ht
 refine ⟨fun id off he cs hc => ?_, fun id r off he => ?_⟩
 ·simp only [he, hc] at h1
  split at h1
  ·rename_i cs' hg
   rw [sameL_eq _ _ h1]
   exact ⟨cs', hg, rfl⟩
  ·cases h1
 ·simp only [he] at h1
  cases h1
theorem fix_load {env E env3 : List AV} {fx : List Nat} {S S' : Sto} {a : Nat} {t : TypeId} {v : AV} (hb : BxS env env3) (hE : E.getD a .undef = env.getD a .undef) (hf : FixS E fx S S') (ha : a ∈ fx) (hv : loadA P S env t (adr env (.tmp a)) = some v) : loadA P S' env3 t (adr env (.tmp a)) = some v := by
 obtain ⟨f1, f2⟩ := hf a ha
 rw [hE] at f1 f2
 have hadr : ∀ w, adr env (.tmp a) = w → (∀ s o, w ≠ .lptr s o) → env.getD a .undef = w := by
  intro w hw hn
  simp only [adr] at hw
  split at hw
  ·exact absurd hw.symm (hn _ _)
  ·exact hw
 generalize hA : adr env (.tmp a) = A at hv hadr ⊢
 unfold loadA at hv ⊢
 split at hv
 ·rename_i id off
  split at hv
  ·rename_i cs hg
   obtain ⟨cs', h1, h2⟩ := f1 id off (hadr _ rfl (by simp)) cs hg
   simp only [h1]
   rw [List.map_drop, h2, ← List.map_drop]; exact hv
  ·cases hv
 ·split at hv
  ·rename_i s off cs hg
   obtain ⟨cs', h1, h2⟩ := hb _ _ hg
   simp only [h1]
   rw [List.map_drop, h2, ← List.map_drop]; exact hv
  ·cases hv
 ·exact hv
 ·rename_i id r off
  split at hv
  ·rename_i es rows hg
   simp only [f2 id r off (hadr _ rfl (by simp)) es rows hg]
   exact hv
  ·cases hv
 ·cases hv
theorem Like.left {L M : List Tmp} {env env' : List AV} (h : Like (L ++ M) env env') : Like L env env' := ⟨fun t ht => h.at_ t (List.mem_append_left _ ht), h.box⟩
theorem all_congr' {l : List Nat} {p q : Nat → Bool} (h : ∀ t ∈ l, p t = q t) : l.all p = l.all q := by
 induction l with
 | nil => rfl
 | cons a l ih => simp only [List.all_cons]; rw [h a (by simp), ih (fun t ht => h t (by simp [ht]))]
theorem sameFix_like {L : List Tmp} {env env' : List AV} {C : List Tmp} {fx : List Nat} {S S' : Sto} (hl : Like (L ++ fx) env env') : sameFix (stripAt env' C) fx S S' = sameFix (stripAt env C) fx S S' := by
 unfold sameFix
 let g : AV → Bool := fun v => match v with
  | .ptr id _ => match S.get id with
   | some (.cells cs) => match S'.get id with
    | some (.cells cs') => sameL cs cs'
    | _ => false
   | _ => true
  | .aptr _ _ _ => false
  | _ => true
 have hg : ∀ v, g v.strip = g v := fun v => by cases v <;> rfl
 refine all_congr' fun t ht => ?_
 show g ((stripAt env' C).getD t .undef) = g ((stripAt env C).getD t .undef)
 rw [stripAt_getD, stripAt_getD, hl.at_ t (List.mem_append_right _ ht)]
 have h1 : ∀ c : Prop, [Decidable c] → g (if c then (env.getD t AV.undef).strip else env.getD t AV.undef) = g (env.getD t AV.undef) := fun c _ => by
  split
  ·exact hg _
  ·rfl
 rw [h1, h1]
theorem callOK_like {L : List Tmp} {env env' : List AV} {C : List Tmp} {fx : List Nat} {S S' : Sto} {a b c : Bool} (hl : Like (L ++ fx) env env') (h : (a && (b && (c || sameFix (stripAt env C) fx S S'))) = true) : (a && (b && (c || sameFix (stripAt env' C) fx S S'))) = true := by
 rw [sameFix_like hl]; exact h
theorem call_st {o : Oper} {st st1 : St} {t : Tgt} {as : List AV} (h : opA P pol f pl o st = some (.call t as st1)) : ¬ isSt o = true := by
 rcases opA_call h with ⟨g, args, ts, hop, _⟩ | ⟨r, m, args, ts, hop, _⟩ <;> simp [isSt, hop]
theorem one_any (hfr : FreeOK H) {j : Nat} {o : Oper} {st st1 : St} {e : AExit} (ho : ops[j]? = some o) (hk : rdr pol f o = true ∨ wrt pol f o = true) (h : evOne P H pol f ops need pl j st = some (e, st1)) :
  ∃ C so v S', (∀ t ∈ C, t ∈ consumed pol f o) ∧ (∀ cs, v ≠ .box cs) ∧ (∀ s w, so = some (s, w) → ∃ cs cs', st.env.getD s .undef = .box cs ∧ w = .box cs' ∧ (isStore o = false → cs'.map AV.strip0 = cs.map AV.strip0)) ∧
   (e = .normal → isStore o = false → (need.strict.contains j = true → SR st.S S') ∧ (need.fix.contains j = true → FixS (stripAt st.env C) need.fx st.S S')) ∧
   (isSt o = true → (need.hp.contains j = true → so = none) ∧ (need.own.contains j = true → S' = st.S)) ∧
   ((e = .normal ∧ st1 = { st with env := eff st.env C so o.dst v, S := S' } ∧
    ∀ st' : St, st'.S = st.S → Like (looksA ops o ++ need.fx) st.env st'.env → evOne P H pol f ops need pl j st' = some (e, { st' with env := eff st'.env C so o.dst v, S := S' })) ∨
    ((∃ ch, e = .pan ch) ∧ st1 = { st with env := stripAt st.env C, S := S' } ∧
    ∀ st' : St, st'.S = st.S → Like (looksA ops o ++ need.fx) st.env st'.env → evOne P H pol f ops need pl j st' = some (e, { st' with env := stripAt st'.env C, S := S' }))) := by
 unfold evOne at h
 simp only [opK_eq] at h
 simp only [ho] at h
 cases hw : wantedA ops o st.env with
 | none => rw [hw] at h; cases h
 | some w =>
  rw [hw] at h
  cases w with
  | false =>
   cases h
   refine ⟨[], none, .undef, st.S, by simp, by simp [AV.undef], (fun _ _ e => nomatch e), fun _ _ => ⟨fun _ => SR.refl _, fun _ => (SR.refl _).fix _ _⟩, fun _ => ⟨fun _ => rfl, fun _ => rfl⟩, .inl ⟨rfl, puts_eff0 _ _ _, fun st' hS hl0 => ?_⟩⟩
   have hl := hl0.left
   unfold evOne
   simp only [opK_eq]
   simp only [ho, wanted_congr hw hl.agree]
   rw [puts_eff0, ← hS]
  | true =>
   simp only at h
   cases hop : opA P pol f pl o st with
   | none => rw [hop] at h; cases h
   | some r =>
    rw [hop] at h
    cases r with
    | val v st2 =>
     simp only at h
     split at h
     ·rename_i hn0
      rw [Bool.and_eq_true] at hn0
      obtain ⟨hn0, hown⟩ := hn0
      have hn : notBox v = true := by simpa [not_loc hk] using hn0
      cases h
      obtain ⟨so, S', rfl, h1, h2, hst, h3⟩ := opA_wrt hk hop
      refine ⟨consumed pol f o, so, leftA o v, S', fun _ h => h, left_nb hn, h1, fun _ hs => ⟨fun _ => h2 hs, fun _ => (h2 hs).fix _ _⟩, fun hs => ⟨fun hi => (hst hs).1 (hp_yes hown hi), fun hi => (hst hs).2 (own_yes hown hi)⟩, .inl ⟨rfl, puts_eff st _ so S' _ _, fun st' hS hl0 => ?_⟩⟩
      have hl := hl0.left
      unfold evOne
      simp only [opK_eq]
      simp only [ho, wanted_congr hw hl.agree, h3 st' hS (looksA_like hl), hn, ownOK_congr (looksA_agree hl.agree), hown, Bool.true_or, Bool.and_self, if_true]
      exact congrArg some (congrArg (Prod.mk AExit.normal) (puts_eff st' _ so S' _ _))
     ·cases h
    | pan ch st2 =>
     exfalso
     obtain ⟨x, t, v, hpo, _⟩ := opA_pan hop
     rcases hk with hk | hk
     ·simp [rdr, hpo, isPure] at hk
     ·simp [wrt, hpo] at hk
    | call t as st2 =>
     obtain ⟨rfl, hf⟩ := opA_wcall hop
     simp only at h
     cases hc : H.call t as st.S with
     | none => rw [hc] at h; cases h
     | some r =>
      obtain ⟨e1, S1⟩ := r
      rw [hc] at h
      cases e1 with
      | ret v =>
       simp only at h
       split at h
       ·rename_i hn
        cases h
        have hn0 := hn
        simp only [Bool.and_eq_true, Bool.or_eq_true, Bool.not_eq_true'] at hn
        obtain ⟨hn1, hn2, hn3⟩ := hn
        refine ⟨consumed pol f o, none, leftA o v, S1, fun _ h => h, left_nb hn1, (fun _ _ e => nomatch e), fun _ _ => ⟨fun hneed => ?_, fun hneed => ?_⟩, fun hs => ⟨fun _ => rfl, fun _ => absurd hs (call_st hop)⟩, .inl ⟨rfl, puts_eff st _ none S1 _ _, fun st' hS hl0 => ?_⟩⟩
        ·rcases hn2 with (h | h) | h
         ·rw [h] at hneed; cases hneed
         ·obtain ⟨g, rfl, hg⟩ := freeCall_tgt h hop
          obtain ⟨v', k, _, rfl, _⟩ := hfr hg hc
          exact SR.next _ _
         ·exact sameOld_sr h
        ·rcases hn3 with (h | h) | h
         ·rw [h] at hneed; cases hneed
         ·obtain ⟨g, rfl, hg⟩ := freeCall_tgt h hop
          obtain ⟨v', k, _, rfl, _⟩ := hfr hg hc
          exact (SR.next _ _).fix _ _
         ·exact sameFix_fix h
        ·have hl := hl0.left
         unfold evOne
         simp only [opK_eq]
         simp only [ho, wanted_congr hw hl.agree, hf st' (looksA_like hl)]
         simp only [hS, hc]
         rw [if_pos (callOK_like hl0 hn0)]
         exact congrArg some (congrArg (Prod.mk AExit.normal) (puts_eff st' _ none S1 _ _))
       ·cases h
      | pan ch =>
       cases h
       refine ⟨consumed pol f o, none, .unk, S1, fun _ h => h, by simp, (fun _ _ e => nomatch e), (fun e => nomatch e), fun hs => ⟨fun _ => rfl, fun _ => absurd hs (call_st hop)⟩, .inr ⟨⟨ch, rfl⟩, rfl, fun st' hS hl0 => ?_⟩⟩
       have hl := hl0.left
       unfold evOne
       simp only [opK_eq]
       simp only [ho, wanted_congr hw hl.agree, hf st' (looksA_like hl), hS, hc]
structure PanEnv (pol : Pol) (f : FuncId) (ops : Array Oper) (a b : List AV) : Prop where
 len : a.length = b.length
 all : ∀ t, (∀ o ∈ ops.toList, o.dst ≠ some t) → (a.getD t .undef).strip = (b.getD t .undef).strip ∧ ((∀ o ∈ ops.toList, t ∉ consumed pol f o) → a.getD t .undef = b.getD t .undef)
structure PanSt (pol : Pol) (f : FuncId) (ops : Array Oper) (a b : St) : Prop where
 env : PanEnv pol f ops a.env b.env
 S : a.S = b.S
 defs : a.defs = b.defs
 par : a.par = b.par
theorem PanSt.trans {a b c : St} (h : PanSt pol f ops a b) (h' : PanSt pol f ops b c) : PanSt pol f ops a c :=
 ⟨⟨h.env.len.trans h'.env.len, fun t ht => ⟨((h.env.all t ht).1).trans (h'.env.all t ht).1, fun hc => ((h.env.all t ht).2 hc).trans ((h'.env.all t ht).2 hc)⟩⟩, h.S.trans h'.S, h.defs.trans h'.defs, h.par.trans h'.par⟩
def EqR (pol : Pol) (f : FuncId) (ops : Array Oper) (r r' : AExit × St) : Prop := r = r' ∨ (r.1 = r'.1 ∧ (∃ ch, r.1 = .pan ch) ∧ PanSt pol f ops r.2 r'.2)
theorem EqR.trans {a b c : AExit × St} (h : EqR pol f ops a b) (h' : EqR pol f ops b c) : EqR pol f ops a c := by
 rcases h with rfl | ⟨h1, h2, h3⟩
 ·exact h'
 ·rcases h' with rfl | ⟨g1, g2, g3⟩
  ·exact .inr ⟨h1, h2, h3⟩
  ·exact .inr ⟨h1.trans g1, h2, h3.trans g3⟩
theorem mem_full {o : Oper} {i : Nat} (ho : ops[i]? = some o) {t : Tmp} (h : t ∈ consumed pol f o ∨ o.dst = some t) : t ∈ wrFull pol f ops := by
 refine List.mem_flatMap.2 ⟨o, List.mem_of_getElem? (by rw [Array.getElem?_toList]; exact ho), ?_⟩
 rcases h with h | h
 ·exact List.mem_append_right _ h
 ·rw [h]; simp
theorem mem_wr {o : Oper} {i : Nat} (ho : ops[i]? = some o) (hn : locA pol f o = false) {t : Tmp} (h : t ∈ consumed pol f o ∨ o.dst = some t) : t ∈ wrAll pol f ops := by
 refine List.mem_flatMap.2 ⟨o, List.mem_of_getElem? (by rw [Array.getElem?_toList]; exact ho), ?_⟩
 rw [hn]
 rcases h with h | h
 ·exact List.mem_append_right _ h
 ·rw [h]; simp
theorem mem_cons {o : Oper} {i : Nat} (ho : ops[i]? = some o) {t : Tmp} (h : t ∈ consumed pol f o) : t ∈ wrAll pol f ops :=
 List.mem_flatMap.2 ⟨o, List.mem_of_getElem? (by rw [Array.getElem?_toList]; exact ho), List.mem_append_right _ h⟩
theorem cons_looks {o : Oper} {t : Tmp} (h : t ∈ consumed pol f o) : t ∈ looksA ops o := by
 refine List.mem_append_left _ ?_
 have one : ∀ {xs ys : List Operand}, (∀ x ∈ xs, x ∈ ys) → t ∈ tmpsOf xs → t ∈ tmpsOf ys := by
  intro xs ys hs hm
  obtain ⟨x, hx, he⟩ := List.mem_filterMap.1 hm
  exact List.mem_filterMap.2 ⟨x, hs x hx, he⟩
 unfold consumed at h
 split at h
 ·rename_i hop
  split at h
  ·split at h
   ·rw [hop]; exact one (by simp [Op.operands]) h
   ·cases h
  ·cases h
 ·rename_i hop; rw [hop]; exact one (by simp [Op.operands]) h
 ·rename_i hop; rw [hop]; exact one (by simp [Op.operands]) h
 ·rename_i hop; rw [hop]; exact one (by simp [Op.operands]) h
 ·rename_i hop; rw [hop]; exact one (by simp [Op.operands]) h
 ·rename_i hop; rw [hop]; exact one (by simp [Op.operands]) h
 ·rename_i ps hop
  split at h
  ·rename_i i x hps
   rw [hop]
   refine one ?_ h
   intro y hy
   simp at hy; subst hy
   simp only [Op.operands]
   have : (i, y) ∈ ps := by rw [← Array.mem_toList_iff, hps]; simp
   simp
   exact ⟨i, this⟩
  ·cases h
 ·rename_i hop; rw [hop]
  refine one (fun x hx => ?_) h
  have := List.mem_of_mem_take hx
  simp [Op.operands, Call.operands]; simpa using this
 ·rename_i hop; rw [hop]
  refine one (fun x hx => ?_) h
  simp [Op.operands, Call.operands]; right; simpa using hx
 ·cases h
theorem disj_spec {a b : List Tmp} (h : disj a b = true) : ∀ t ∈ a, t ∉ b := by
 intro t ht hb
 have := List.all_eq_true.1 h t ht
 simp at this
 exact this hb
theorem swap (hfr : FreeOK H) {i j : Nat} {x y : Oper} {st st1 st2 : St} {e : AExit} (hx : ops[i]? = some x) (hy : ops[j]? = some y) (hrx : rdr pol f x = true) (hky : rdr pol f y = true ∨ wrt pol f y = true) (hap : apartA pol f ops x y = true)
  (hst : looksS x = true → (isStore y = false ∧ (need.strict.contains j = true ∨ isFix need.fx x = true ∧ need.fix.contains j = true ∨ need.own.contains i = true)) ∨ farOK pol f need.own need.hp i j x y = true) (hfxs : ∀ t ∈ need.fx, t ∉ wrFull pol f ops) (hnb : NB (wrAll pol f ops) st.env) (h1 : evOne P H pol f ops need pl i st = some (.normal, st1)) (h2 : evOne P H pol f ops need pl j st1 = some (e, st2)) :
  ∃ st1', evOne P H pol f ops need pl j st = some (e, st1') ∧ ((e = .normal ∧ evOne P H pol f ops need pl i st1' = some (.normal, st2)) ∨ ((∃ ch, e = .pan ch) ∧ PanSt pol f ops st2 st1')) := by
 have hnx0 := not_loc (.inl hrx)
 have hny0 := not_loc hky
 simp only [apartA, Bool.and_eq_true] at hap
 obtain ⟨⟨⟨⟨a1, a2⟩, a3⟩, a4⟩, a5⟩ := hap
 obtain ⟨_, Cx, vx, c1, c2, rfl, hfx, hown⟩ := one_rdr hx hrx h1
 obtain ⟨Cy, so, vy, S', d1, d2, d3, d4, dst, d5⟩ := one_any hfr hy hky h2
 have dx_looks : ∀ t ∈ looksA ops y, x.dst ≠ some t := fun t ht e => disj_spec a1 t (by rw [e]; simp) ht
 have cx_looks : ∀ t ∈ looksA ops y, t ∉ Cx := fun t ht hc => disj_spec a4 t (c1 t hc) ht
 have dy_looks : ∀ t ∈ looksA ops x, y.dst ≠ some t := fun t ht e => disj_spec a3 t (by rw [e]; simp) ht
 have cy_looks : ∀ t ∈ looksA ops x, t ∉ Cy := fun t ht hc => disj_spec a5 t (d1 t hc) ht
 -- what the first leaves is not told by the second
 have like : Like (looksA ops y) (eff st.env Cx none x.dst vx) st.env := by
  refine ⟨fun t ht => ?_, fun s cs hs => ?_⟩
  ·rw [eff_out (so := none) (cx_looks t ht) (dx_looks t ht) (fun _ _ e => nomatch e)]
  ·by_cases hc : s ∈ Cx
   ·exfalso
    unfold eff at hs
    cases hd : x.dst with
    | none =>
     rw [hd] at hs; simp only [setO, stripAt_getD] at hs
     split at hs
     ·exact strip_nb _ _ hs
     ·exact hnb s (mem_wr hx hnx0 (.inl (c1 s hc))) cs hs
    | some d =>
     rw [hd] at hs; simp only [setO, getD_set, stripAt_getD] at hs
     split at hs
     ·exact c2 cs hs
     ·split at hs
      ·exact strip_nb _ _ hs
      ·exact hnb s (mem_wr hx hnx0 (.inl (c1 s hc))) cs hs
   ·by_cases hd : x.dst = some s
    ·exfalso
     rw [hd] at hs
     simp only [eff, setO, getD_set, stripAt_getD] at hs
     split at hs
     ·exact c2 cs hs
     ·rw [if_neg (fun h => hc h.1)] at hs
      exact hnb s (mem_wr hx hnx0 (.inr hd)) cs hs
    ·rwa [eff_out (so := none) hc hd (fun _ _ e => nomatch e)] at hs
 have like' : Like (looksA ops y ++ need.fx) (eff st.env Cx none x.dst vx) st.env := by
  refine ⟨fun t ht => ?_, like.box⟩
  rcases List.mem_append.1 ht with ht | ht
  ·exact like.at_ t ht
  ·exact (eff_out (so := none) (fun h => hfxs t ht (mem_full hx (.inl (c1 t h)))) (fun h => hfxs t ht (mem_full hx (.inr h))) (fun _ _ e => nomatch e)).symm
 have so_box : ∀ s w, so = some (s, w) → ∃ cs, st.env.getD s .undef = .box cs := by
  intro s w e
  obtain ⟨cs, cs', h, _⟩ := d3 s w e
  exact ⟨cs, like.box s cs h⟩
 have so_wr : ∀ s w, so = some (s, w) → s ∉ wrAll pol f ops := by
  intro s w e hm
  obtain ⟨cs, h⟩ := so_box s w e
  exact hnb s hm cs h
 rcases d5 with ⟨rfl, rfl, hfy⟩ | ⟨⟨ch, rfl⟩, rfl, hfy⟩
 ·have hy1 := hfy st rfl like'
  refine ⟨_, hy1, .inl ⟨rfl, ?_⟩⟩
  have := hfx { st with env := eff st.env Cy so y.dst vy, S := S' } (fun t ht => ?_) (fun hwt hl => ?_)
  ·rw [this]
   refine congrArg some (congrArg (Prod.mk AExit.normal) ?_)
   have hcomm : eff (eff st.env Cx none x.dst vx) Cy so y.dst vy = eff (eff st.env Cy so y.dst vy) Cx none x.dst vx :=
    eff_comm (fun t ht hc => cy_looks t (cons_looks (c1 t hc)) ht) (fun d hd hm => dx_looks d (cons_looks (d1 d hm)) hd) (fun d hd hm => dy_looks d (cons_looks (c1 d hm)) hd)
     (fun d hd hd' => disj_spec a2 d (by rw [hd]; simp) (by rw [hd']; simp)) (fun s w e => ⟨fun hm => so_wr s w e (mem_wr hx hnx0 (.inl (c1 s hm))), fun hd => so_wr s w e (mem_wr hx hnx0 (.inr hd))⟩)
   simp only [hcomm]
  ·-- what the second leaves is not told by the first
   by_cases hs : ∃ w, so = some (t, w)
   ·obtain ⟨w, hs⟩ := hs
    right
    obtain ⟨cs, cs', h, rfl, _⟩ := d3 t w hs
    refine ⟨cs, cs', like.box t cs h, ?_⟩
    have hnd : y.dst ≠ some t := fun e => so_wr t _ hs (mem_wr hy hny0 (.inr e))
    have hlt : t < st.env.length := by
     have := like.box t cs h
     refine Classical.byContradiction fun hn => ?_
     simp [List.getD, hn, AV.undef] at this
    rw [hs]
    unfold eff
    cases hyd : y.dst with
    | none => simp only [setO, getD_set, stripAt_length]; rw [if_pos ⟨trivial, hlt⟩]
    | some d =>
     simp only [setO, getD_set, List.length_set, stripAt_length]
     rw [if_neg (by rintro ⟨e, _⟩; exact hnd (by rw [hyd, e])), if_pos ⟨trivial, hlt⟩]
   ·left
    exact (eff_out (cy_looks t ht) (dy_looks t ht) (fun s w e hst => hs ⟨w, by rw [e, hst]⟩)).symm
  ·-- boxes are as they were, but where the second one stores
   have bx : (∀ s w, so = some (s, w) → isStore y = false) → BxS st.env (eff st.env Cy so y.dst vy) := by
    intro hns s cs hs
    by_cases hs' : ∃ w, so = some (s, w)
    ·obtain ⟨w, hs'⟩ := hs'
     obtain ⟨cs0, cs', h, rfl, h3⟩ := d3 s w hs'
     have hb := like.box s cs0 h
     rw [hb] at hs; cases hs
     have hnd : y.dst ≠ some s := fun e => so_wr s _ hs' (mem_wr hy hny0 (.inr e))
     have hlt : s < st.env.length := by
      refine Classical.byContradiction fun hn => ?_
      simp [List.getD, hn, AV.undef] at hb
     refine ⟨cs', ?_, h3 (hns s _ hs')⟩
     rw [hs']
     unfold eff
     cases hyd : y.dst with
     | none => simp only [setO, getD_set, stripAt_length]; rw [if_pos ⟨trivial, hlt⟩]
     | some d =>
      simp only [setO, getD_set, List.length_set, stripAt_length]
      rw [if_neg (by rintro ⟨e, _⟩; exact hnd (by rw [hyd, e])), if_pos ⟨trivial, hlt⟩]
    ·refine ⟨cs, ?_, rfl⟩
     rw [eff_out (fun hm => hnb s (mem_wr hy hny0 (.inl (d1 s hm))) cs hs) (fun hd => hnb s (mem_wr hy hny0 (.inr hd)) cs hs) (fun s' w e hst => hs' ⟨w, by rw [e, hst]⟩)]
     exact hs
   have own_ : need.own.contains i = true → ∀ ty a, x.op = .load ty a → BxS st.env (eff st.env Cy so y.dst vy) → LookS P x st { st with env := eff st.env Cy so y.dst vy, S := S' } := by
    intro hi ty a hxo hbx
    obtain ⟨s, off, had⟩ := lp_some (own_yes (hown hwt) hi) hxo
    exact .inr ⟨ty, a, hxo, fun v hv => by rw [had] at hv ⊢; exact lp_load hbx hv⟩
   rcases hst hl with ⟨hns, hn⟩ | hfar
   ·have hbx := bx (fun _ _ _ => hns)
    rcases hn with hn | ⟨hxf, hn⟩ | hn
    ·exact .inl ⟨hbx, (d4 rfl hns).1 hn⟩
    ·right
     unfold isFix at hxf
     split at hxf
     ·rename_i ty a hxo
      refine ⟨ty, .tmp a, hxo, fun v hv => ?_⟩
      have ham : a ∈ need.fx := by simpa using hxf
      have haw := hfxs a ham
      refine fix_load hbx ?_ ((d4 rfl hns).2 hn) ham hv
      rw [stripAt_getD, if_neg (fun h => haw (mem_full hy (.inl (d1 a h.1))))]
      exact eff_out (so := none) (fun h => haw (mem_full hx (.inl (c1 a h)))) (fun h => haw (mem_full hx (.inr h))) (fun _ _ e => nomatch e)
     ·cases hxf
    ·have hlx := own_yes (hown hwt) hn
     have hxo : ∃ ty a, x.op = .load ty a := by
      unfold lpOp plcOf at hlx
      cases hxop : x.op <;> simp only [hxop] at hlx <;> first | exact ⟨_, _, rfl⟩ | cases hlx | skip
      exfalso
      simp [rdr, hxop, isPure] at hrx
     obtain ⟨ty, a, hxo⟩ := hxo
     exact own_ hn ty a hxo hbx
   ·simp only [farOK, Bool.and_eq_true, Bool.or_eq_true] at hfar
    obtain ⟨⟨⟨_, hlx⟩, hsy⟩, hcase⟩ := hfar
    have hxo : ∃ ty a, x.op = .load ty a := by
     unfold isLoad at hlx
     split at hlx
     ·rename_i hop; exact ⟨_, _, hop⟩
     ·cases hlx
    obtain ⟨ty, a, hxo⟩ := hxo
    rcases hcase with ⟨h1, h2⟩ | ⟨h1, h2⟩
    ·have hso := (dst hsy).1 h2
     exact own_ h1 ty a hxo (bx (fun s w e => by rw [hso] at e; cases e))
    ·have hS' := (dst hsy).2 h2
     have hlp := hp_yes (hown hwt) h1
     refine .inr ⟨ty, a, hxo, fun v hv => ?_⟩
     show loadA P S' (eff st.env Cy so y.dst vy) ty (adr st.env a) = some v
     rw [hS']
     exact hp_load (lp_none hlp hxo) hv
 ·have hy1 := hfy st rfl like'
  refine ⟨_, hy1, .inr ⟨⟨ch, rfl⟩, ⟨?_, fun t ht => ?_⟩, rfl, rfl, rfl⟩⟩
  ·simp only [stripAt_length, eff_length]
  ·have hxd : x.dst ≠ some t := ht x (List.mem_of_getElem? (by rw [Array.getElem?_toList]; exact hx))
   have he : ∀ (h : t ∉ Cx), (eff st.env Cx none x.dst vx).getD t .undef = st.env.getD t .undef := fun h => eff_out h hxd (fun _ _ e => nomatch e)
   have hes : ((eff st.env Cx none x.dst vx).getD t .undef).strip = (st.env.getD t .undef).strip := by
    by_cases hc : t ∈ Cx
    ·have : (eff st.env Cx none x.dst vx).getD t .undef = (stripAt st.env Cx).getD t .undef := by
      unfold eff
      cases hd : x.dst with
      | none => rfl
      | some d => simp only [setO]; rw [getD_set, if_neg (by rintro ⟨e, _⟩; exact hxd (by rw [hd, e]))]
     rw [this, stripAt_getD]
     split
     ·exact strip_idem _
     ·rfl
    ·rw [he hc]
   refine ⟨?_, fun hcons => ?_⟩
   ·simp only [stripAt_getD, eff_length]
    split
    ·rw [strip_idem, strip_idem]; exact hes
    ·exact hes
   ·have hcx : t ∉ Cx := fun hm => hcons x (List.mem_of_getElem? (by rw [Array.getElem?_toList]; exact hx)) (c1 t hm)
    have hcy : t ∉ Cy := fun hm => hcons y (List.mem_of_getElem? (by rw [Array.getElem?_toList]; exact hy)) (d1 t hm)
    simp only [stripAt_getD]
    rw [if_neg (fun h => hcy h.1), if_neg (fun h => hcy h.1), he hcx]
def St.nx (st : St) (k : Nat) : St := { st with S := { heap := st.S.heap, next := k } }
def OR.nx (k : Nat) : OR → OR
 | .val v st => .val v (st.nx k)
 | .call t as st => .call t as (st.nx k)
 | .pan ch st => .pan ch (st.nx k)
theorem load_next {o : Oper} (hl : isLoad o = true) (st : St) (k : Nat) : opA P pol f pl o (st.nx k) = (opA P pol f pl o st).map (OR.nx k) := by
 unfold isLoad at hl
 cases hop : o.op <;> rw [hop] at hl <;> simp only at hl <;> first | (cases hl; done) | skip
 rename_i t a
 unfold opA
 simp only [hop, loadS, St.nx]
 cases o.dst with
 | none => rfl
 | some d =>
  simp only
  split
  ·split
   ·rename_i id off had
    simp only [Sto.get]
    cases hg : Sto.look id st.S.heap with
    | none => rfl
    | some ob =>
     cases ob <;> simp only <;> try rfl
     rename_i cs
     cases takeCells P t off cs <;> rfl
   ·rename_i s off had
    cases hg : (stripAt st.env (consumed pol f o)).getD s .undef <;> simp only <;> try rfl
    rename_i cs
    split
    ·rfl
    ·cases takeCells P t off cs <;> rfl
   ·rfl
  ·have : loadA P { heap := st.S.heap, next := k } (stripAt st.env (consumed pol f o)) t (adr st.env a) = loadA P st.S (stripAt st.env (consumed pol f o)) t (adr st.env a) := rfl
   rw [this]
   cases loadA P st.S (stripAt st.env (consumed pol f o)) t (adr st.env a) <;> rfl
theorem load_val {o : Oper} (hl : isLoad o = true) {st : St} {r : OR} (h : opA P pol f pl o st = some r) : ∃ v st1, r = .val v st1 := by
 cases r with
 | val v st1 => exact ⟨v, st1, rfl⟩
 | call t as st1 =>
  rcases opA_call h with ⟨g, args, ts, hop, _⟩ | ⟨r, m, args, ts, hop, _⟩ <;> simp [isLoad, hop] at hl
 | pan ch st1 =>
  obtain ⟨x, t, v, hop, _⟩ := opA_pan h
  simp [isLoad, hop] at hl
theorem one_load_next {i : Nat} {o : Oper} (ho : ops[i]? = some o) (hl : isLoad o = true) (st : St) (k : Nat) : evOne P H pol f ops need pl i (st.nx k) = (evOne P H pol f ops need pl i st).map (fun r => (r.1, r.2.nx k)) := by
 unfold evOne
 simp only [opK_eq]
 simp only [ho]
 have : (st.nx k).env = st.env := rfl
 rw [this, load_next hl]
 cases hw : wantedA ops o st.env with
 | none => rfl
 | some w =>
  cases w with
  | false => cases hd : o.dst <;> rfl
  | true =>
   simp only
   cases hop : opA P pol f pl o st with
   | none => rfl
   | some r =>
    obtain ⟨v, st1, rfl⟩ := load_val hl hop
    simp only [Option.map_some, OR.nx]
    by_cases hn : ((notBox v || locA pol f o) && ownOK need.own need.hp i o st.env) = true
    ·rw [if_pos hn, if_pos hn]
     cases hd : o.dst <;> rfl
    ·rw [if_neg hn, if_neg hn]; rfl
theorem one_load {i : Nat} {o : Oper} {st st1 : St} {e : AExit} (ho : ops[i]? = some o) (hl : isLoad o = true) (h : evOne P H pol f ops need pl i st = some (e, st1)) : e = .normal := by
 unfold evOne at h
 simp only [opK_eq] at h
 simp only [ho] at h
 cases hw : wantedA ops o st.env with
 | none => rw [hw] at h; cases h
 | some w =>
  rw [hw] at h
  cases w with
  | false => cases h; rfl
  | true =>
   simp only at h
   cases hop : opA P pol f pl o st with
   | none => rw [hop] at h; cases h
   | some r =>
    obtain ⟨v, sv, rfl⟩ := load_val hl hop
    rw [hop] at h
    simp only at h
    split at h
    ·cases h; rfl
    ·cases h
theorem one_free (hfr : FreeOK H) {j : Nat} {o : Oper} {st st1 : St} {e : AExit} (ho : ops[j]? = some o) (hk : rdr pol f o = true ∨ wrt pol f o = true) (hf : freeCall H.free o = true) (h : evOne P H pol f ops need pl j st = some (e, st1)) :
  e = .normal ∧ ∃ C v k, (∀ t ∈ C, t ∈ consumed pol f o) ∧ (∀ cs, v ≠ .box cs) ∧ st1 = ({ st with env := eff st.env C none o.dst v } : St).nx k ∧
   ∀ st' : St, st'.S.next = st.S.next → Agree (looksA ops o) st.env st'.env → evOne P H pol f ops need pl j st' = some (.normal, ({ st' with env := eff st'.env C none o.dst v } : St).nx k) := by
 unfold evOne at h
 simp only [opK_eq] at h
 simp only [ho] at h
 cases hw : wantedA ops o st.env with
 | none => rw [hw] at h; cases h
 | some w =>
  rw [hw] at h
  cases w with
  | false =>
   cases h
   refine ⟨rfl, [], .undef, st.S.next, by simp, by simp [AV.undef], by rw [puts_eff0]; rfl, fun st' hS ha => ?_⟩
   unfold evOne
   simp only [opK_eq]
   simp only [ho, wanted_congr hw ha]
   rw [puts_eff0, ← hS]; rfl
  | true =>
   simp only at h
   cases hop : opA P pol f pl o st with
   | none => rw [hop] at h; cases h
   | some r =>
    rw [hop] at h
    obtain ⟨g0, hcg⟩ : ∃ g, o.op = g := ⟨_, rfl⟩
    cases r with
    | val v st2 =>
     exfalso
     unfold freeCall at hf
     split at hf
     ·rename_i g args ts hcall
      have hcl : isCl pol (.func g) = false := by
       rcases hk with hk | hk
       ·simp [rdr, hcall, isPure] at hk
       ·simpa [wrt, hcall] using hk
      unfold opA at hop
      simp only [hcall, hcl, Bool.false_eq_true, if_false] at hop
      cases hca : calleeA (argsA st.env args.toList) (opd st.env (.func g)) with
      | none => rw [hca] at hop; cases hop
      | some ta => obtain ⟨t, as⟩ := ta; rw [hca] at hop; cases hop
     ·cases hf
    | pan ch st2 =>
     exfalso
     obtain ⟨x, t, v, hpo, _⟩ := opA_pan hop
     simp [freeCall, hpo] at hf
    | call t as st2 =>
     obtain ⟨g, rfl, hg⟩ := freeCall_tgt hf hop
     obtain ⟨rfl, hfop⟩ := opA_wcallA hop
     simp only at h
     cases hc : H.call (.func g) as st.S with
     | none => rw [hc] at h; cases h
     | some r =>
      obtain ⟨e1, S1⟩ := r
      rw [hc] at h
      obtain ⟨v, k, rfl, rfl, hall⟩ := hfr hg hc
      simp only at h
      split at h
      ·rename_i hn
       cases h
       simp only [Bool.and_eq_true] at hn
       refine ⟨rfl, consumed pol f o, leftA o v, k, fun _ h => h, left_nb hn.1, ?_, fun st' hS ha => ?_⟩
       ·exact puts_eff st _ none { heap := st.S.heap, next := k } _ _
       ·unfold evOne
        simp only [opK_eq]
        simp only [ho, wanted_congr hw ha, hfop st' (looksA_agree ha)]
        rw [hall st'.S hS]
        simp only [hn.1, hf, Bool.or_true, Bool.true_or, Bool.and_self, if_true]
        exact congrArg some (congrArg (Prod.mk AExit.normal) (puts_eff st' _ none { heap := st'.S.heap, next := k } _ _))
      ·cases h
theorem swapF (hfr : FreeOK H) {i j : Nat} {x y : Oper} {st st1 st2 : St} {e : AExit} (hx : ops[i]? = some x) (hy : ops[j]? = some y) (hkx : rdr pol f x = true ∨ wrt pol f x = true) (hlx : isLoad x = true) (hky : rdr pol f y = true ∨ wrt pol f y = true) (hfy : freeCall H.free y = true) (hap : apartA pol f ops x y = true)
  (hfxs : ∀ t ∈ need.fx, t ∉ wrFull pol f ops) (hnb : NB (wrAll pol f ops) st.env) (h1 : evOne P H pol f ops need pl i st = some (.normal, st1)) (h2 : evOne P H pol f ops need pl j st1 = some (e, st2)) :
  e = .normal ∧ ∃ st1', evOne P H pol f ops need pl j st = some (.normal, st1') ∧ evOne P H pol f ops need pl i st1' = some (.normal, st2) := by
 have hnx0 := not_loc hkx
 have hny0 := not_loc hky
 simp only [apartA, Bool.and_eq_true] at hap
 obtain ⟨⟨⟨⟨a1, a2⟩, a3⟩, a4⟩, a5⟩ := hap
 obtain ⟨Cx, so, vx, Sx, d1, d2, d3, _, _, d5⟩ := one_any hfr hx hkx h1
 obtain ⟨rfl, Cy, vy, k, c1, c2, rfl, hfy'⟩ := one_free hfr hy hky hfy h2
 rcases d5 with ⟨_, rfl, hfx⟩ | ⟨⟨ch, he⟩, _⟩
 ·refine ⟨rfl, ?_⟩
  -- the reader's own changes to the store leave its next place as it is
  have hnx : Sx.next = st.S.next := by
   have h1' := h1
   unfold evOne at h1'
   simp only [opK_eq] at h1'
   simp only [hx] at h1'
   have := load_next (P := P) (pol := pol) (f := f) (pl := pl) hlx st st.S.next
   have hst : st.nx st.S.next = st := rfl
   rw [hst] at this
   cases hw : wantedA ops x st.env with
   | none => rw [hw] at h1'; cases h1'
   | some w =>
    rw [hw] at h1'
    cases w with
    | false =>
     simp only [Option.some.injEq, Prod.mk.injEq, true_and] at h1'
     have := congrArg St.S h1'
     rw [puts_S] at this
     simp only at this
     rw [← this]
    | true =>
     simp only at h1'
     cases hop : opA P pol f pl x st with
     | none => rw [hop] at h1'; cases h1'
     | some r =>
      obtain ⟨v, sv, rfl⟩ := load_val hlx hop
      rw [hop] at h1' this
      simp only [Option.map_some, OR.nx, Option.some.injEq, OR.val.injEq, true_and] at this
      simp only at h1'
      split at h1'
      ·simp only [Option.some.injEq, Prod.mk.injEq, true_and] at h1'
       have h3 := congrArg St.S h1'
       rw [puts_S] at h3
       simp only at h3
       rw [← h3, this]
       rfl
      ·cases h1'
  have dx_looks : ∀ t ∈ looksA ops y, x.dst ≠ some t := fun t ht e => disj_spec a1 t (by rw [e]; simp) ht
  have cx_looks : ∀ t ∈ looksA ops y, t ∉ Cx := fun t ht hc => disj_spec a4 t (d1 t hc) ht
  have dy_looks : ∀ t ∈ looksA ops x, y.dst ≠ some t := fun t ht e => disj_spec a3 t (by rw [e]; simp) ht
  have cy_looks : ∀ t ∈ looksA ops x, t ∉ Cy := fun t ht hc => disj_spec a5 t (c1 t hc) ht
  have so_wr : ∀ s w, so = some (s, w) → s ∉ wrAll pol f ops := by
   intro s w e hm
   obtain ⟨cs, _, h, _⟩ := d3 s w e
   exact hnb s hm cs h
  -- the call, ahead of the read
  have hy1 := hfy' st (by simp only; exact hnx.symm) (fun t ht => by
   by_cases hs : ∃ w, so = some (t, w)
   ·obtain ⟨w, hs⟩ := hs
    obtain ⟨cs, cs', h, rfl, _⟩ := d3 t w hs
    right
    refine ⟨cs', cs, ?_, h⟩
    have hnd : x.dst ≠ some t := fun e => so_wr t _ hs (mem_wr hx hnx0 (.inr e))
    have hlt : t < st.env.length := by
     refine Classical.byContradiction fun hn => ?_
     simp [List.getD, hn, AV.undef] at h
    rw [hs]
    unfold eff
    cases hxd : x.dst with
    | none => simp only [setO, getD_set, stripAt_length]; rw [if_pos ⟨trivial, hlt⟩]
    | some d =>
     simp only [setO, getD_set, List.length_set, stripAt_length]
     rw [if_neg (by rintro ⟨e, _⟩; exact hnd (by rw [hxd, e])), if_pos ⟨trivial, hlt⟩]
   ·left
    exact eff_out (cx_looks t ht) (dx_looks t ht) (fun s w e hst => hs ⟨w, by rw [e, hst]⟩))
  refine ⟨_, hy1, ?_⟩
  rw [one_load_next hx hlx, hfx { st with env := eff st.env Cy none y.dst vy } rfl ⟨fun t ht => (List.mem_append.1 ht).elim (fun ht => eff_out (so := none) (cy_looks t ht) (dy_looks t ht) (fun _ _ e => nomatch e)) (fun ht => eff_out (so := none) (fun h => hfxs t ht (mem_full hy (.inl (c1 t h)))) (fun h => hfxs t ht (mem_full hy (.inr h))) (fun _ _ e => nomatch e)), fun s cs hs => ?_⟩]
  ·have hcomm : eff (eff st.env Cy none y.dst vy) Cx so x.dst vx = eff (eff st.env Cx so x.dst vx) Cy none y.dst vy :=
    eff_comm (fun t ht hc => cx_looks t (cons_looks (c1 t hc)) ht) (fun d hd hm => dy_looks d (cons_looks (d1 d hm)) hd) (fun d hd hm => dx_looks d (cons_looks (c1 d hm)) hd)
     (fun d hd hd' => disj_spec a2 d (by rw [hd']; simp) (by rw [hd]; simp)) (fun s w e => ⟨fun hm => so_wr s w e (mem_wr hy hny0 (.inl (c1 s hm))), fun hd => so_wr s w e (mem_wr hy hny0 (.inr hd))⟩)
   simp only [Option.map_some, hcomm]
  ·rw [eff_out (so := none) (fun hm => hnb s (mem_wr hy hny0 (.inl (c1 s hm))) cs hs) (fun hd => hnb s (mem_wr hy hny0 (.inr hd)) cs hs) (fun _ _ e => nomatch e)]
   exact hs
 ·cases he
structure PendOK (D : List Tmp) (env : List AV) : Prop where
 nb : ∀ d ∈ D, ∀ cs, env.getD d .undef ≠ .box cs
 nl : ∀ d ∈ D, ∀ t off, env.getD t .undef ≠ .lptr d off
theorem strip_nl (v : AV) (s off : Nat) : v.strip ≠ .lptr s off := by cases v <;> simp [AV.strip, AV.strip1, AV.strip0]
theorem stripAt_nl {d : Nat} {env : List AV} (h : ∀ t off, env.getD t .undef ≠ .lptr d off) (C : List Tmp) : ∀ t off, (stripAt env C).getD t .undef ≠ .lptr d off := by
 intro t off
 rw [stripAt_getD]
 split
 ·exact strip_nl _ _ _
 ·exact h t off
theorem noPlace_mk {env : List AV} {d : Nat} (h : ∀ t off, env.getD t .undef ≠ .lptr d off) : ∀ pl, noPlaceIn env d pl = true
 | [] => rfl
 | t :: ts => by
  unfold noPlaceIn
  rw [noPlace_mk h ts, Bool.and_true]
  split
  ·rename_i s off hs
   have : s ≠ d := by rintro rfl; exact h t off hs
   simpa using this
  ·rfl
theorem adr_lp {env : List AV} {a : Operand} {s off : Nat} (h : adr env a = .lptr s off) : (∃ cs, env.getD s .undef = .box cs) ∨ ∃ t off', env.getD t .undef = .lptr s off' := by
 cases a with
 | tmp t =>
  simp only [adr] at h
  split at h
  ·rename_i cs hb
   cases h
   exact .inl ⟨cs, hb⟩
  ·exact .inr ⟨t, off, h⟩
 | _ => cases h
theorem addOff_lp {x : AV} {n s off : Nat} (h : addOff x n = some (.lptr s off)) : ∃ off', x = .lptr s off' := by
 unfold addOff at h
 split at h
 ·cases h
 ·cases h; exact ⟨_, rfl⟩
 ·split at h <;> cases h
 ·cases h
 ·cases h
theorem place_lp {o : Oper} {st st' : St} {v : AV} {s off : Nat} (hp : isPlaceOp o ≠ none) (h : opA P pol f pl o st = some (.val v st')) (hv : v = .lptr s off) : (∃ cs, st.env.getD s .undef = .box cs) ∨ ∃ t off', st.env.getD t .undef = .lptr s off' := by
 subst hv
 have pure_ : isPure o = true → frzSl pol f o = false → ∃ p, pureA P pol f o st.env = some p ∧ p = .lptr s off := by
  intro hq hq2
  rw [opA_pure hq hq2] at h
  cases hv : pureA P pol f o st.env with
  | none => rw [hv] at h; cases h
  | some v => rw [hv] at h; cases h; exact ⟨_, rfl, rfl⟩
 unfold isPlaceOp at hp
 split at hp
 ·rename_i t a i hop
  obtain ⟨p, h1, rfl⟩ := pure_ (by simp [isPure, hop]) (by simp [frzSl, hop])
  simp only [pureA, hop, fieldAddrA] at h1
  split at h1
  ·split at h1
   ·cases h1
   ·obtain ⟨off', h2⟩ := addOff_lp h1
    exact adr_lp h2
  ·cases h1
 ·rename_i t a i hop
  obtain ⟨p, h1, rfl⟩ := pure_ (by simp [isPure, hop]) (by simp [frzSl, hop])
  simp only [pureA, hop, indexAddrA] at h1
  split at h1
  ·split at h1
   ·split at h1
    ·simp only [Option.map_eq_some_iff] at h1
     obtain ⟨_, _, h2⟩ := h1
     cases h2
    ·cases h1
   ·split at h1 <;> cases h1
   ·split at h1 <;> cases h1
   ·split at h1
    ·obtain ⟨off', h2⟩ := addOff_lp h1
     exact adr_lp h2
    ·cases h1
   ·cases h1
  ·cases h1
 ·rename_i a hop
  obtain ⟨p, h1, rfl⟩ := pure_ (by simp [isPure, hop]) (by simp [frzSl, hop])
  simp only [pureA, hop] at h1
  split at h1 <;> cases h1
  rename_i had
  exact adr_lp had
 ·exact absurd rfl hp
theorem left_nl {o : Oper} {v : AV} {s off : Nat} (h : leftA o v = .lptr s off) : isPlaceOp o ≠ none ∧ v = .lptr s off := by
 unfold leftA at h
 split at h
 ·rename_i t hp
  exact ⟨by rw [hp]; simp, h⟩
 ·cases v <;> simp [AV.noLp] at h
theorem loc_one {j : Nat} {o : Oper} {st st1 : St} {e : AExit} (ho : ops[j]? = some o) (hl : locA pol f o = true) (h : evOne P H pol f ops need pl j st = some (e, st1)) :
  e = .normal ∧ ∃ C v, (∀ t ∈ C, t ∈ consumed pol f o) ∧ (∀ s off, v ≠ .lptr s off) ∧ st1 = { st with env := eff st.env C none o.dst v } ∧ ∀ st' : St, Agree (looksA ops o) st.env st'.env → (∀ d, o.dst = some d → ∀ t off, st'.env.getD t .undef ≠ .lptr d off) →
   evOne P H pol f ops need pl j st' = some (.normal, { st' with env := eff st'.env C none o.dst v }) := by
 have hpl : isPlaceOp o = none := by
  unfold locA at hl
  unfold isPlaceOp
  split at hl
  ·rename_i t hop; simp [hop]
  ·rename_i t x hop; simp [hop]
  ·cases hl
 unfold evOne at h
 simp only [opK_eq] at h
 simp only [ho] at h
 cases hw : wantedA ops o st.env with
 | none => rw [hw] at h; cases h
 | some w =>
  rw [hw] at h
  cases w with
  | false =>
   cases h
   refine ⟨rfl, [], .undef, by simp, by simp [AV.undef], puts_eff0 _ _ _, fun st' ha _ => ?_⟩
   unfold evOne
   simp only [opK_eq]
   simp only [ho, wanted_congr hw ha]
   rw [puts_eff0]
  | true =>
   simp only at h
   have key : ∃ cs, opA P pol f pl o st = some (.val (.box cs) { st with env := stripAt st.env (consumed pol f o) }) ∧ ∀ st' : St, Agree (looksA ops o) st.env st'.env → (∀ d, o.dst = some d → ∀ t off, st'.env.getD t .undef ≠ .lptr d off) →
     opA P pol f pl o st' = some (.val (.box cs) { st' with env := stripAt st'.env (consumed pol f o) }) := by
    cases hop : opA P pol f pl o st with
    | none => rw [hop] at h; cases h
    | some r =>
     unfold locA at hl
     split at hl
     ·rename_i t hopo
      have hc : consumed pol f o = [] := by simp [consumed, hopo]
      rw [hc]
      unfold opA at hop
      simp only [hopo, hc] at hop
      cases hz : zeroA P t with
      | none => rw [hz] at hop; cases hop
      | some z =>
       rw [hz] at hop
       cases hd : o.dst with
       | none => rw [hd] at hl; cases hl
       | some d =>
        rw [hd] at hl hop
        simp only at hl
        simp only [newVarA, hl, if_true] at hop
        split at hop
        ·cases hop
         refine ⟨z.cells, rfl, fun st' ha hnl => ?_⟩
         unfold opA
         simp only [hopo, hc, hz, hd, newVarA, hl, if_true]
         rw [if_pos (noPlace_mk (stripAt_nl (hnl d rfl) []) pl)]
        ·cases hop
     ·rename_i t x hopo
      have hc : consumed pol f o = tmpsOf [x] := by simp [consumed, hopo]
      rw [hc]
      unfold opA at hop
      simp only [hopo, hc] at hop
      split at hop
      ·rename_i hk
       cases hd : o.dst with
       | none => rw [hd] at hl; cases hl
       | some d =>
        rw [hd] at hl hop
        simp only at hl
        simp only [newVarA, hl, if_true] at hop
        split at hop
        ·cases hop
         refine ⟨(opt st.env x).cells, rfl, fun st' ha hnl => ?_⟩
         have hx : opt st'.env x = opt st.env x := (opt_congr (looksA_agree ha) (mem_tmps (by simp [hopo, Op.operands]))).symm
         unfold opA
         simp only [hopo, hc, hx, hd]
         rw [if_pos hk]
         simp only [newVarA, hl, if_true]
         rw [if_pos (noPlace_mk (stripAt_nl (hnl d rfl) _) pl)]
        ·cases hop
      ·cases hop
     ·cases hl
   obtain ⟨cs, hop, hcong⟩ := key
   rw [hop] at h
   simp only [hl, Bool.or_true, Bool.true_and] at h
   split at h
   rotate_left
   ·cases h
   rename_i hown
   cases h
   have hleft : leftA o (.box cs) = .box cs := by unfold leftA; rw [hpl]; rfl
   refine ⟨rfl, consumed pol f o, .box cs, fun _ h => h, by simp, ?_, fun st' ha hnl => ?_⟩
   ·rw [hleft]; exact puts_eff st (consumed pol f o) none st.S o.dst _
   ·unfold evOne
    simp only [opK_eq]
    simp only [ho, wanted_congr hw ha, hcong st' ha hnl, hl, Bool.or_true, ownOK_congr (looksA_agree ha), hown, Bool.and_self, if_true, hleft]
    exact congrArg some (congrArg (Prod.mk AExit.normal) (puts_eff st' (consumed pol f o) none st'.S o.dst _))
theorem one_eff (hfr : FreeOK H) {j : Nat} {o : Oper} {st st1 : St} (ho : ops[j]? = some o) (hk : rdr pol f o = true ∨ wrt pol f o = true ∨ locA pol f o = true) (h : evOne P H pol f ops need pl j st = some (.normal, st1)) :
  ∃ C so v, (∀ t ∈ C, t ∈ consumed pol f o) ∧ (∀ s w, so = some (s, w) → ∃ cs cs', st.env.getD s .undef = .box cs ∧ w = .box cs') ∧ st1.env = eff st.env C so o.dst v ∧
   ∀ s off, v = .lptr s off → (∃ cs, st.env.getD s .undef = .box cs) ∨ ∃ t off', st.env.getD t .undef = .lptr s off' := by
 rcases or_assoc.2 hk with hk | hl
 ·have h0 := h
  obtain ⟨C, so, v, S', d1, d2, d3, _, _, d5⟩ := one_any hfr ho hk h
  rcases d5 with ⟨_, rfl, _⟩ | ⟨⟨ch, he⟩, _⟩
  rotate_left
  ·cases he
  cases hd : o.dst with
  | none => exact ⟨C, so, .undef, d1, fun s w e => let ⟨cs, cs', h1, h2, _⟩ := d3 s w e; ⟨cs, cs', h1, h2⟩, rfl, fun s off e => by cases e⟩
  | some d =>
   rcases Nat.lt_or_ge d st.env.length with hlt | hlt
   rotate_left
   ·refine ⟨C, so, .undef, d1, fun s w e => let ⟨cs, cs', h1, h2, _⟩ := d3 s w e; ⟨cs, cs', h1, h2⟩, ?_, fun s off e => by cases e⟩
    have hlen : ∀ so : Option (Nat × AV), (setO (stripAt st.env C) so).length = st.env.length := by
     intro so
     cases so with
     | none => exact stripAt_length _ _
     | some sw => simp [setO, stripAt_length]
    simp only [eff]
    rw [List.set_eq_of_length_le (by rw [hlen]; exact hlt), List.set_eq_of_length_le (by rw [hlen]; exact hlt)]
   ·refine ⟨C, so, v, d1, fun s w e => let ⟨cs, cs', h1, h2, _⟩ := d3 s w e; ⟨cs, cs', h1, h2⟩, rfl, fun s off hv => ?_⟩
    -- the value stands in the variable
    have hat : (eff st.env C so (some d) v).getD d .undef = v := by
     simp only [eff]
     rw [getD_set, if_pos]
     refine ⟨rfl, ?_⟩
     cases so with
     | none => simpa [setO, stripAt_length] using hlt
     | some sw => simpa [setO, stripAt_length] using hlt
    unfold evOne at h0
    simp only [opK_eq] at h0
    simp only [ho] at h0
    cases hw : wantedA ops o st.env with
    | none => rw [hw] at h0; cases h0
    | some w =>
     rw [hw] at h0
     have put : ∀ {s0 : St} {u : AV}, s0.env.length = st.env.length → s0.puts o.dst u = { st with env := eff st.env C so o.dst v, S := S' } → u = v := by
      intro s0 u hl0 he
      rw [hd] at he
      have := congrArg (fun s : St => s.env.getD d .undef) he
      simp only [St.puts] at this
      rw [hat, getD_set, if_pos ⟨rfl, by rw [hl0]; exact hlt⟩] at this
      exact this
     cases w with
     | false =>
      simp only [Option.some.injEq, Prod.mk.injEq, true_and] at h0
      have := put (s0 := st) (u := .undef) rfl h0
      rw [← this] at hv; cases hv
     | true =>
      simp only at h0
      cases hop : opA P pol f pl o st with
      | none => rw [hop] at h0; cases h0
      | some r =>
       rw [hop] at h0
       cases r with
       | val u s2 =>
        simp only at h0
        split at h0
        ·simp only [Option.some.injEq, Prod.mk.injEq, true_and] at h0
         obtain ⟨so2, S2, rfl, _⟩ := opA_wrt hk hop
         have := put (s0 := { st with env := setO (stripAt st.env (consumed pol f o)) so2, S := S2 }) (u := leftA o u) (by
          cases so2 with
          | none => exact stripAt_length _ _
          | some sw => simp [setO, stripAt_length]) h0
         rw [← this] at hv
         obtain ⟨h1, h2⟩ := left_nl hv
         exact place_lp h1 hop h2
        ·cases h0
       | pan ch s2 => simp at h0
       | call t as s2 =>
        obtain ⟨rfl, _⟩ := opA_wcall hop
        simp only at h0
        cases hc : H.call t as st.S with
        | none => rw [hc] at h0; cases h0
        | some eS =>
         obtain ⟨e, S1⟩ := eS
         rw [hc] at h0
         cases e with
         | pan ch => simp at h0
         | ret u =>
          simp only at h0
          split at h0
          ·simp only [Option.some.injEq, Prod.mk.injEq, true_and] at h0
           have := put (s0 := { st with env := stripAt st.env (consumed pol f o), S := S1 }) (u := leftA o u) (stripAt_length _ _) h0
           rw [← this] at hv
           obtain ⟨h1, _⟩ := left_nl hv
           rcases opA_call hop with ⟨g, args, ts, hpo, _⟩ | ⟨r, m, args, ts, hpo, _⟩ <;> exact absurd (by simp [isPlaceOp, hpo]) h1
          ·cases h0
 ·obtain ⟨_, C, v, c1, c2, rfl, _⟩ := loc_one ho hl h
  exact ⟨C, none, v, c1, (fun _ _ e => nomatch e), rfl, fun s off e => absurd e (c2 s off)⟩
theorem one_pend (hfr : FreeOK H) {j : Nat} {o : Oper} {st st1 : St} {D : List Tmp} (ho : ops[j]? = some o) (hk : rdr pol f o = true ∨ wrt pol f o = true ∨ locA pol f o = true) (hD : ∀ d ∈ D, o.dst ≠ some d ∧ d ∉ consumed pol f o) (hp : PendOK D st.env) (h : evOne P H pol f ops need pl j st = some (.normal, st1)) :
  PendOK D st1.env := by
 obtain ⟨C, so, v, d1, d3, he, hv⟩ := one_eff hfr ho hk h
 have hso : ∀ d ∈ D, ∀ s w, so = some (s, w) → s ≠ d := by
  rintro d hd s w e rfl
  obtain ⟨cs, _, h, _⟩ := d3 s w e
  exact hp.nb s hd cs h
 refine ⟨fun d hd cs hb => ?_, fun d hd t off hb => ?_⟩
 ·rw [he, eff_out (fun hc => (hD d hd).2 (d1 d hc)) (hD d hd).1 (hso d hd)] at hb
  exact hp.nb d hd cs hb
 ·rw [he] at hb
  have base : ∀ (so : Option (Nat × AV)), (∀ s w, so = some (s, w) → ∃ cs', w = .box cs') → ∀ t, (setO (stripAt st.env C) so).getD t .undef ≠ .lptr d off := by
   intro so hs t hb
   cases so with
   | none => exact stripAt_nl (hp.nl d hd) C t off hb
   | some sw =>
    obtain ⟨s, w⟩ := sw
    simp only [setO, getD_set] at hb
    split at hb
    ·obtain ⟨cs', rfl⟩ := hs s w rfl
     cases hb
    ·exact stripAt_nl (hp.nl d hd) C t off hb
  have hbx : ∀ s w, so = some (s, w) → ∃ cs', w = .box cs' := fun s w e => let ⟨_, cs', _, h⟩ := d3 s w e; ⟨cs', h⟩
  unfold eff at hb
  cases hdst : o.dst with
  | none => rw [hdst] at hb; exact base so hbx t hb
  | some k =>
   rw [hdst] at hb
   simp only [getD_set] at hb
   split at hb
   ·rcases hv d off hb with ⟨cs, h1⟩ | ⟨t', off', h1⟩
    ·exact hp.nb d hd cs h1
    ·exact hp.nl d hd t' off' h1
   ·exact base so hbx t hb
theorem swapL (hfr : FreeOK H) {i j : Nat} {x y : Oper} {st st1 st2 : St} {e : AExit} (hx : ops[i]? = some x) (hy : ops[j]? = some y) (hkx : rdr pol f x = true ∨ wrt pol f x = true ∨ locA pol f x = true) (hly : locA pol f y = true) (hap : apartA pol f ops x y = true)
  (hfxs : ∀ t ∈ need.fx, t ∉ wrFull pol f ops) (hnb : NB (wrAll pol f ops) st.env) (hpx : ∀ d, locA pol f x = true → x.dst = some d → PendOK [d] st.env) (hpy : ∀ d, y.dst = some d → PendOK [d] st.env) (h1 : evOne P H pol f ops need pl i st = some (.normal, st1)) (h2 : evOne P H pol f ops need pl j st1 = some (e, st2)) :
  e = .normal ∧ ∃ st1', evOne P H pol f ops need pl j st = some (.normal, st1') ∧ evOne P H pol f ops need pl i st1' = some (.normal, st2) := by
 simp only [apartA, Bool.and_eq_true] at hap
 obtain ⟨⟨⟨⟨a1, a2⟩, a3⟩, a4⟩, a5⟩ := hap
 have dx_looks : ∀ t ∈ looksA ops y, x.dst ≠ some t := fun t ht e => disj_spec a1 t (by rw [e]; simp) ht
 have dy_looks : ∀ t ∈ looksA ops x, y.dst ≠ some t := fun t ht e => disj_spec a3 t (by rw [e]; simp) ht
 obtain ⟨rfl, Cy, vy, c1, c2, he2, hfy⟩ := loc_one hy hly h2
 refine ⟨rfl, ?_⟩
 have cy_looks : ∀ t ∈ looksA ops x, t ∉ Cy := fun t ht hc => disj_spec a5 t (c1 t hc) ht
 -- what the first changes
 have main : ∀ (Cx : List Tmp) (so : Option (Nat × AV)) (vx : AV) (Sx : Sto), (∀ t ∈ Cx, t ∈ consumed pol f x) → (∀ s w, so = some (s, w) → ∃ cs cs', st.env.getD s .undef = .box cs ∧ w = .box cs') → (∀ s w, so = some (s, w) → y.dst ≠ some s ∧ s ∉ Cy) →
   st1 = { st with env := eff st.env Cx so x.dst vx, S := Sx } →
   (∀ st' : St, st'.S = st.S → Like (looksA ops x ++ need.fx) st.env st'.env → (∀ d, locA pol f x = true → x.dst = some d → ∀ t off, st'.env.getD t .undef ≠ .lptr d off) → evOne P H pol f ops need pl i st' = some (.normal, { st' with env := eff st'.env Cx so x.dst vx, S := Sx })) →
   ∃ st1', evOne P H pol f ops need pl j st = some (.normal, st1') ∧ evOne P H pol f ops need pl i st1' = some (.normal, st2) := by
  intro Cx so vx Sx d1 d3 hsoy he1 hfx
  have cx_looks : ∀ t ∈ looksA ops y, t ∉ Cx := fun t ht hc => disj_spec a4 t (d1 t hc) ht
  have hyst := hfy st (fun t ht => by
   rw [he1]
   by_cases hs : ∃ w, so = some (t, w)
   ·obtain ⟨w, hs⟩ := hs
    obtain ⟨cs, cs', h, rfl⟩ := d3 t w hs
    right
    refine ⟨cs', cs, ?_, h⟩
    have hnd : x.dst ≠ some t := dx_looks t ht
    have hlt : t < st.env.length := by
     refine Classical.byContradiction fun hn => ?_
     simp [List.getD, hn, AV.undef] at h
    rw [hs]
    unfold eff
    cases hxd : x.dst with
    | none => simp only [setO, getD_set, stripAt_length]; rw [if_pos ⟨trivial, hlt⟩]
    | some d =>
     simp only [setO, getD_set, List.length_set, stripAt_length]
     rw [if_neg (by rintro ⟨e, _⟩; exact hnd (by rw [hxd, e])), if_pos ⟨trivial, hlt⟩]
   ·left
    exact eff_out (cx_looks t ht) (dx_looks t ht) (fun s w e hst => hs ⟨w, by rw [e, hst]⟩)) (fun d hd => (hpy d hd).nl d (by simp))
  refine ⟨_, hyst, ?_⟩
  rw [hfx { st with env := eff st.env Cy none y.dst vy } rfl ⟨fun t ht => ?_, fun s cs hs => ?_⟩ (fun d hlx hd t off => ?_), he2, he1]
  ·have hcomm : eff (eff st.env Cy none y.dst vy) Cx so x.dst vx = eff (eff st.env Cx so x.dst vx) Cy none y.dst vy :=
    eff_comm (fun t ht hc => cx_looks t (cons_looks (c1 t hc)) ht) (fun d hd hm => dy_looks d (cons_looks (d1 d hm)) hd) (fun d hd hm => dx_looks d (cons_looks (c1 d hm)) hd)
     (fun d hd hd' => disj_spec a2 d (by rw [hd']; simp) (by rw [hd]; simp)) (fun s w e => ⟨(hsoy s w e).2, (hsoy s w e).1⟩)
   simp only [hcomm]
  ·rcases List.mem_append.1 ht with ht | ht
   ·exact eff_out (so := none) (cy_looks t ht) (dy_looks t ht) (fun _ _ e => nomatch e)
   ·exact eff_out (so := none) (fun h => hfxs t ht (mem_full hy (.inl (c1 t h)))) (fun h => hfxs t ht (mem_full hy (.inr h))) (fun _ _ e => nomatch e)
  ·rw [eff_out (so := none) (fun hm => hnb s (mem_cons hy (c1 s hm)) cs hs) (fun hd => (hpy s hd).nb s (by simp) cs hs) (fun _ _ e => nomatch e)]
   exact hs
  ·have hp := (hpx d hlx hd).nl d (by simp)
   show (eff st.env Cy none y.dst vy).getD t .undef ≠ .lptr d off
   unfold eff
   cases hyd : y.dst with
   | none => exact stripAt_nl hp Cy t off
   | some k =>
    simp only [setO, getD_set]
    split
    ·exact c2 d off
    ·exact stripAt_nl hp Cy t off
 rcases or_assoc.2 hkx with hkx | hlx
 ·obtain ⟨Cx, so, vx, Sx, d1, d2, d3, _, _, d5⟩ := one_any hfr hx hkx h1
  rcases d5 with ⟨_, rfl, hfx⟩ | ⟨⟨ch, he⟩, _⟩
  ·refine main Cx so vx Sx d1 (fun s w e => let ⟨cs, cs', h1, h2, _⟩ := d3 s w e; ⟨cs, cs', h1, h2⟩) (fun s w e => ?_) rfl (fun st' hS hl _ => hfx st' hS hl)
   obtain ⟨cs, _, h, _⟩ := d3 s w e
   exact ⟨fun hd => (hpy s hd).nb s (by simp) cs h, fun hm => hnb s (mem_cons hy (c1 s hm)) cs h⟩
  ·cases he
 ·obtain ⟨_, Cx, vx, d1, _, rfl, hfx⟩ := loc_one hx hlx h1
  exact main Cx none vx st.S d1 (fun _ _ e => nomatch e) (fun _ _ e => nomatch e) rfl (fun st' hS hl hnl => by
   rw [hfx st' hl.left.agree (fun d hd => hnl d hlx hd), ← hS])
end
end Go.Ab
namespace Go.Ab
variable {P : Program} {H : Handler} {pol : Pol} {f : FuncId} {ops : Array Oper} {tab : List (Nat × Nat)} {need : Need} {pl : List Tmp}
def Kinds (pol : Pol) (f : FuncId) (ops : Array Oper) : Prop := ∀ (i : Nat) o, ops[i]? = some o → rdr pol f o = true ∨ wrt pol f o = true ∨ locA pol f o = true
def LocFine (pol : Pol) (f : FuncId) (ops : Array Oper) : Prop := ∀ (j : Nat) (y : Oper), ops[j]? = some y → locA pol f y = true → ∀ (i : Nat) (x : Oper), ops[i]? = some x → ∀ d, y.dst = some d → d ∉ consumed pol f x ∧ (i ≠ j → x.dst ≠ some d)
theorem locOK_fine (h : locOK pol f ops = true) : LocFine pol f ops := by
 intro j y hy hl i x hx d hd
 unfold locOK at h
 rw [Bool.or_eq_true] at h
 rcases h with h | h
 ·exfalso
  have : ops.toList.any (locA pol f) = true := List.any_eq_true.2 ⟨y, List.mem_of_getElem? (by rw [Array.getElem?_toList]; exact hy), hl⟩
  rw [this] at h; cases h
 ·have h1 := List.all_eq_true.1 h j (List.mem_range.2 (Array.getElem?_eq_some_iff.1 hy).1)
  rw [hy] at h1
  simp only [hl, Bool.not_true, Bool.false_or] at h1
  have h2 := List.all_eq_true.1 h1 i (List.mem_range.2 (Array.getElem?_eq_some_iff.1 hx).1)
  rw [hx] at h2
  simp only [hd, Option.toList_some, Bool.and_eq_true, Bool.or_eq_true, beq_iff_eq] at h2
  refine ⟨disj_spec h2.1 d (by simp), fun hne e => ?_⟩
  rcases h2.2 with h3 | h3
  ·exact hne h3
  ·exact disj_spec h3 d (by simp) (by rw [e]; simp)
theorem one_nbL (hL : LocFine pol f ops) {j : Nat} {o : Oper} {st st1 : St} {e : AExit} (ho : ops[j]? = some o) (hl : locA pol f o = true) (hnb : NB (wrAll pol f ops) st.env) (h : evOne P H pol f ops need pl j st = some (e, st1)) : NB (wrAll pol f ops) st1.env := by
 obtain ⟨_, C, v, c1, c2, rfl, _⟩ := loc_one ho hl h
 intro t ht cs hb
 have hd : o.dst ≠ some t := by
  intro hd
  obtain ⟨o', ho', hm⟩ := List.mem_flatMap.1 ht
  obtain ⟨i, hi⟩ := List.getElem?_of_mem ho'
  rw [Array.getElem?_toList] at hi
  have := hL j o ho hl i o' hi t hd
  rcases List.mem_append.1 hm with hm | hm
  ·split at hm
   ·cases hm
   ·rename_i hn
    have hij : i ≠ j := by
     rintro rfl
     rw [ho] at hi; cases hi
     exact hn hl
    exact this.2 hij (by simpa using hm)
  ·exact this.1 hm
 have hc : (eff st.env C none o.dst v).getD t .undef = (stripAt st.env C).getD t .undef := by
  unfold eff
  cases hdst : o.dst with
  | none => rfl
  | some k => simp only [setO]; rw [getD_set, if_neg (by rintro ⟨e, _⟩; exact hd (by rw [hdst, e]))]
 rw [hc, stripAt_getD] at hb
 split at hb
 ·exact strip_nb _ _ hb
 ·exact hnb t ht cs hb
theorem one_nb (hfr : FreeOK H) {j : Nat} {o : Oper} {st st1 : St} {e : AExit} (ho : ops[j]? = some o) (hk : rdr pol f o = true ∨ wrt pol f o = true) (hnb : NB (wrAll pol f ops) st.env) (h : evOne P H pol f ops need pl j st = some (e, st1)) :
  NB (wrAll pol f ops) st1.env ∧ (e = .normal ∨ ∃ ch, e = .pan ch) := by
 obtain ⟨C, so, v, S', d1, d2, d3, _, _, d5⟩ := one_any hfr ho hk h
 have hs : ∀ t, NB (wrAll pol f ops) st.env → t ∈ wrAll pol f ops → ∀ cs, (stripAt st.env C).getD t .undef ≠ .box cs := by
  intro t hnb ht cs
  rw [stripAt_getD]
  split
  ·exact strip_nb _ _
  ·exact hnb t ht cs
 rcases d5 with ⟨rfl, rfl, _⟩ | ⟨⟨ch, rfl⟩, rfl, _⟩
 ·refine ⟨fun t ht cs => ?_, .inl rfl⟩
  have hso : ∀ s w, so = some (s, w) → s ≠ t := by
   rintro s w e rfl
   obtain ⟨cs0, _, h, _⟩ := d3 s w e
   exact hnb s ht cs0 h
  unfold eff
  cases hd : o.dst with
  | none => simp only; rw [setO_getD hso]; exact hs t hnb ht cs
  | some d =>
   simp only
   rw [getD_set]
   split
   ·exact d2 cs
   ·rw [setO_getD hso]; exact hs t hnb ht cs
 ·exact ⟨fun t ht cs => hs t hnb ht cs, .inr ⟨ch, rfl⟩⟩
theorem evOpsD_cons {i : Nat} {l : List Nat} {st : St} : evOpsD P H pol f ops need pl (i :: l) st = (match evOne P H pol f ops need pl i st with
  | some (.normal, st') => evOpsD P H pol f ops need pl l st'
  | r => r) := rfl
theorem evOne_some {i : Nat} {st : St} {r : AExit × St} (h : evOne P H pol f ops need pl i st = some r) : ∃ o, ops[i]? = some o := by
 unfold evOne at h
 cases ho : ops[i]? with
 | none => rw [ho] at h; cases h
 | some o => exact ⟨o, rfl⟩
structure RegOK (H : Handler) (pol : Pol) (f : FuncId) (ops : Array Oper) (need : Need) : Prop where
 fr : FreeOK H
 fxs : ∀ t ∈ need.fx, t ∉ wrFull pol f ops
 K : Kinds pol f ops
 L : LocFine pol f ops
def pend (pol : Pol) (f : FuncId) (ops : Array Oper) (l : List Nat) : List Tmp := l.filterMap fun j => (ops[j]?).bind fun o => if locA pol f o then o.dst else none
theorem mem_pend {l : List Nat} {d : Tmp} : d ∈ pend pol f ops l ↔ ∃ j ∈ l, ∃ o, ops[j]? = some o ∧ locA pol f o = true ∧ o.dst = some d := by
 unfold pend
 rw [List.mem_filterMap]
 constructor
 ·rintro ⟨j, hj, h⟩
  cases ho : ops[j]? with
  | none => rw [ho] at h; cases h
  | some o =>
   rw [ho] at h
   simp only [Option.bind_some] at h
   split at h
   ·rename_i hl; exact ⟨j, hj, o, ho, hl, h⟩
   ·cases h
 ·rintro ⟨j, hj, o, ho, hl, hd⟩
  exact ⟨j, hj, by rw [ho]; simp [hl, hd]⟩
theorem PendOK.sub {l l' : List Nat} {env : List AV} (h : PendOK (pend pol f ops l) env) (hs : ∀ j ∈ l', j ∈ l) : PendOK (pend pol f ops l') env := by
 have hm : ∀ d ∈ pend pol f ops l', d ∈ pend pol f ops l := fun d hd => by
  obtain ⟨j, hj, r⟩ := mem_pend.1 hd
  exact mem_pend.2 ⟨j, hs j hj, r⟩
 exact ⟨fun d hd => h.nb d (hm d hd), fun d hd => h.nl d (hm d hd)⟩
theorem PendOK.one {l : List Nat} {env : List AV} (h : PendOK (pend pol f ops l) env) {j : Nat} {o : Oper} (hj : j ∈ l) (ho : ops[j]? = some o) (hl : locA pol f o = true) {d : Tmp} (hd : o.dst = some d) : PendOK [d] env := by
 have hm : d ∈ pend pol f ops l := mem_pend.2 ⟨j, hj, o, ho, hl, hd⟩
 exact ⟨fun d' hd' => by rw [List.mem_singleton.1 hd']; exact h.nb d hm, fun d' hd' => by rw [List.mem_singleton.1 hd']; exact h.nl d hm⟩
theorem PendOK.step (hR : RegOK H pol f ops need) {l : List Nat} {i : Nat} {x : Oper} (hi : i ∉ l) (hx : ops[i]? = some x) {st st1 : St} (hp : PendOK (pend pol f ops l) st.env) (h : evOne P H pol f ops need pl i st = some (.normal, st1)) : PendOK (pend pol f ops l) st1.env := by
 refine one_pend hR.fr hx (hR.K i x hx) (fun d hd => ?_) hp h
 obtain ⟨j, hj, y, hy, hl, hdy⟩ := mem_pend.1 hd
 have := hR.L j y hy hl i x hx d hdy
 exact ⟨this.2 (by rintro rfl; exact hi hj), this.1⟩
def MayPass (H : Handler) (pol : Pol) (f : FuncId) (ops : Array Oper) (need : Need) (i : Nat) (x : Oper) (j : Nat) (y : Oper) : Prop :=
 apartA pol f ops x y = true ∧ (rdr pol f x = true ∧ (looksS x = true → (isStore y = false ∧ (need.strict.contains j = true ∨ isFix need.fx x = true ∧ need.fix.contains j = true ∨ need.own.contains i = true)) ∨ farOK pol f need.own need.hp i j x y = true) ∨ isLoad x = true ∧ freeCall H.free y = true ∨ locA pol f y = true)
def NoLoc (pol : Pol) (f : FuncId) (ops : Array Oper) : Prop := ∀ (j : Nat) (o : Oper), ops[j]? = some o → locA pol f o = false
theorem load_kind {x : Oper} (h : rdr pol f x = true ∨ wrt pol f x = true ∨ locA pol f x = true) (hl : isLoad x = true) : rdr pol f x = true ∨ wrt pol f x = true := by
 rcases or_assoc.2 h with h | h
 ·exact h
 ·exfalso
  unfold isLoad at hl
  split at hl
  ·rename_i hop; simp [locA, hop] at h
  ·cases hl
theorem nb_step (hR : RegOK H pol f ops need) {j : Nat} {y : Oper} (hy : ops[j]? = some y) {st st1 : St} {e : AExit} (hnb : NB (wrAll pol f ops) st.env) (h : evOne P H pol f ops need pl j st = some (e, st1)) : NB (wrAll pol f ops) st1.env := by
 rcases or_assoc.2 (hR.K j y hy) with hk | hl
 ·exact (one_nb hR.fr hy hk hnb h).1
 ·exact one_nbL hR.L hy hl hnb h
theorem one_end (hR : RegOK H pol f ops need) {j : Nat} {y : Oper} (hy : ops[j]? = some y) {st st1 : St} {e : AExit} (hnb : NB (wrAll pol f ops) st.env) (h : evOne P H pol f ops need pl j st = some (e, st1)) : e = .normal ∨ ∃ ch, e = .pan ch := by
 rcases or_assoc.2 (hR.K j y hy) with hk | hl
 ·exact (one_nb hR.fr hy hk hnb h).2
 ·exact .inl (loc_one hy hl h).1
theorem move (hR : RegOK H pol f ops need) {i : Nat} {x : Oper} (hx : ops[i]? = some x) : ∀ (p s : List Nat) (st : St) (r : AExit × St), NB (wrAll pol f ops) st.env → PendOK (pend pol f ops (i :: (p ++ s))) st.env → (i :: (p ++ s)).Nodup → (NoLoc pol f ops ∨ r.1 = .normal) →
  (∀ j ∈ p, ∀ y, ops[j]? = some y → MayPass H pol f ops need i x j y) → (∀ j ∈ p, ∃ y, ops[j]? = some y) →
  evOpsD P H pol f ops need pl (i :: (p ++ s)) st = some r → ∃ r', evOpsD P H pol f ops need pl (p ++ i :: s) st = some r' ∧ EqR pol f ops r r'
 | [], s, st, r, _, _, _, _, _, _, h => ⟨r, h, .inl rfl⟩
 | j :: p, s, st, r, hnb, hpd, hnd, hN, hp, hin, h => by
  rw [evOpsD_cons] at h
  cases h1 : evOne P H pol f ops need pl i st with
  | none => rw [h1] at h; cases h
  | some r1 =>
   obtain ⟨e1, st1⟩ := r1
   obtain ⟨y, hy⟩ := hin j (by simp)
   obtain ⟨ha, hl⟩ := hp j (by simp) y hy
   rw [h1] at h
   have he1 : e1 = .normal := by
    rcases hl with ⟨hr, _⟩ | ⟨hl, _⟩ | hl
    ·exact (one_rdr hx hr h1).1
    ·exact one_load hx hl h1
    ·rcases one_end hR hx hnb h1 with he | ⟨ch, rfl⟩
     ·exact he
     ·exfalso
      simp only [Option.some.injEq] at h
      subst h
      rcases hN with hN | hN
      ·rw [hN j y hy] at hl; cases hl
      ·cases hN
   subst he1
   simp only [List.cons_append, evOpsD_cons] at h
   cases h2 : evOne P H pol f ops need pl j st1 with
   | none => rw [h2] at h; cases h
   | some r2 =>
    obtain ⟨e2, st2⟩ := r2
    rw [h2] at h
    obtain ⟨st1', g1, g2⟩ : ∃ st1', evOne P H pol f ops need pl j st = some (e2, st1') ∧ ((e2 = .normal ∧ evOne P H pol f ops need pl i st1' = some (.normal, st2)) ∨ ((∃ ch, e2 = .pan ch) ∧ PanSt pol f ops st2 st1')) := by
     rcases Bool.eq_false_or_eq_true (locA pol f y) with hly | hly
     ·obtain ⟨rfl, st1', k1, k2⟩ := swapL hR.fr hx hy (hR.K i x hx) hly ha hR.fxs hnb (fun d hlx hd => hpd.one (by simp) hx hlx hd) (fun d hd => hpd.one (j := j) (by simp) hy hly hd) h1 h2
      exact ⟨st1', k1, .inl ⟨rfl, k2⟩⟩
     ·have hky : rdr pol f y = true ∨ wrt pol f y = true := (or_assoc.2 (hR.K j y hy)).resolve_right (by rw [hly]; simp)
      rcases hl with ⟨hr, hl⟩ | ⟨hl, hf⟩ | hl
      ·exact swap hR.fr hx hy hr hky ha hl hR.fxs hnb h1 h2
      ·obtain ⟨rfl, st1', k1, k2⟩ := swapF hR.fr hx hy (load_kind (hR.K i x hx) hl) hl hky hf ha hR.fxs hnb h1 h2
       exact ⟨st1', k1, .inl ⟨rfl, k2⟩⟩
      ·rw [hly] at hl; cases hl
    rcases g2 with ⟨rfl, g2⟩ | ⟨⟨ch, rfl⟩, g2⟩
    ·simp only at h
     have hnb' := nb_step hR hy hnb g1
     have hnd' : j ∉ i :: (p ++ s) ∧ (i :: (p ++ s)).Nodup := by
      have : (i :: j :: (p ++ s)).Nodup := hnd
      have hsw := (List.Perm.swap j i (p ++ s)).nodup_iff.1 this
      exact ⟨(List.nodup_cons.1 hsw).1, (List.nodup_cons.1 hsw).2⟩
     have hpd' : PendOK (pend pol f ops (i :: (p ++ s))) st1'.env := PendOK.step hR hnd'.1 hy (hpd.sub (fun a ha => by simp at ha ⊢; rcases ha with h | h | h <;> simp [h])) g1
     obtain ⟨r', k1, k2⟩ := move hR hx p s st1' r hnb' hpd' hnd'.2 hN (fun j' hj' => hp j' (by simp [hj'])) (fun j' hj' => hin j' (by simp [hj'])) (by rw [evOpsD_cons, g2]; exact h)
     refine ⟨r', ?_, k2⟩
     rw [List.cons_append, evOpsD_cons, g1]
     exact k1
    ·simp only at h
     cases h
     refine ⟨(.pan ch, st1'), ?_, .inr ⟨rfl, ⟨ch, rfl⟩, g2⟩⟩
     rw [List.cons_append, evOpsD_cons, g1]
theorem closed_mono : ∀ {l done done' : List Nat}, (∀ i ∈ done, i ∈ done') → (∀ i ∈ l, i ∉ done') → Closed ops done l → Closed ops done' l
 | [], _, _, _, _, _ => trivial
 | i :: l, done, done', h1, h2, h => by
  obtain ⟨_, ⟨o, ho, hdep⟩, hr⟩ := h
  have hnd : i ∉ l := by
   have : ∀ {l done : List Nat}, Closed ops done l → ∀ j ∈ done, j ∉ l := by
    intro l
    induction l with
    | nil => intro _ _ _ _ h; cases h
    | cons a l ih =>
     intro done h j hj hm
     rcases List.mem_cons.1 hm with rfl | hm
     ·exact h.1 hj
     ·exact ih h.2.2 j (List.mem_cons_of_mem _ hj) hm
   exact this hr i (by simp)
  refine ⟨h2 i (by simp), ⟨o, ho, fun e he hb => h1 _ (hdep e he hb)⟩, closed_mono (done := i :: done) (done' := i :: done') (fun j hj => ?_) (fun j hj hm => ?_) hr⟩
  ·rcases List.mem_cons.1 hj with rfl | hj
   ·simp
   ·exact List.mem_cons_of_mem _ (h1 j hj)
  ·rcases List.mem_cons.1 hm with rfl | hm
   ·exact hnd hj
   ·exact h2 j (by simp [hj]) hm
theorem closed_erase {i : Nat} : ∀ {p s done : List Nat}, i ∉ p → Closed ops done (p ++ i :: s) → Closed ops (i :: done) (p ++ s)
 | [], s, done, _, h => h.2.2
 | a :: p, s, done, hn, h => by
  simp only [List.mem_cons, not_or] at hn
  obtain ⟨h1, ⟨o, ho, hdep⟩, hr⟩ := h
  refine ⟨?_, ⟨o, ho, fun e he hb => List.mem_cons_of_mem _ (hdep e he hb)⟩, ?_⟩
  ·intro hm
   rcases List.mem_cons.1 hm with e | hm
   ·exact hn.1 e.symm
   ·exact h1 hm
  ·have ih := closed_erase hn.2 hr
   have hnot := closed_notin ih
   refine closed_mono (fun j hj => ?_) (fun j hj hm => ?_) ih
   ·rcases List.mem_cons.1 hj with rfl | hj
    ·simp
    ·rcases List.mem_cons.1 hj with rfl | hj
     ·simp
     ·simp [hj]
   ·refine hnot j ?_ hj
    rcases List.mem_cons.1 hm with rfl | hm
    ·simp
    ·rcases List.mem_cons.1 hm with rfl | hm
     ·simp
     ·simp [hm]
theorem needs_of {i j : Nat} {x : Oper} (hx : ops[i]? = some x) (hr : rdr pol f x = true) (hl : looksS x = true) {fx : List Nat} {ow : List Nat} (hf : isFix fx x = false) (how : ow.contains i = false) (h1 : hangs tab i j = false) (h2 : hangs tab j i = false) : needS pol f ops fx ow tab j = true := by
 unfold needS
 rw [List.any_eq_true]
 refine ⟨i, List.mem_range.2 (Array.getElem?_eq_some_iff.1 hx).1, ?_⟩
 rw [hx]
 simp [hr, hl, hf, h1, h2]
 simpa using how
theorem needx_of {i j : Nat} {x : Oper} (hx : ops[i]? = some x) {fx : List Nat} (hf : isFix fx x = true) (h1 : hangs tab i j = false) (h2 : hangs tab j i = false) : needX ops fx tab j = true := by
 unfold needX
 rw [List.any_eq_true]
 refine ⟨i, List.mem_range.2 (Array.getElem?_eq_some_iff.1 hx).1, ?_⟩
 rw [hx]
 simp [hf, h1, h2]
def Bef (tab : List (Nat × Nat)) (done l : List Nat) : Prop := ∀ p y s, l = p ++ y :: s → ∀ x, hangs tab x y = true → x ∈ done ∨ x ∈ p
theorem Bef.tail {done l : List Nat} {i : Nat} (h : Bef tab done (i :: l)) : Bef tab (i :: done) l := by
 intro p y s e x hx
 rcases h (i :: p) y s (by rw [e]; rfl) x hx with h | h
 ·exact .inl (by simp [h])
 ·rcases List.mem_cons.1 h with rfl | h
  ·exact .inl (by simp)
  ·exact .inr h
theorem Bef.erase {done p s : List Nat} {i : Nat} (h : Bef tab done (p ++ i :: s)) : Bef tab (i :: done) (p ++ s) := by
 intro p' y s' e x hx
 rcases List.append_eq_append_iff.1 e with ⟨a, h1, h2⟩ | ⟨a, h1, h2⟩
 ·rcases h (p ++ i :: a) y s' (by rw [h2]; simp) x hx with h | h
  ·exact .inl (by simp [h])
  ·simp only [List.mem_append, List.mem_cons] at h
   rcases h with h | rfl | h
   ·exact .inr (by rw [h1]; simp [h])
   ·exact .inl (by simp)
   ·exact .inr (by rw [h1]; simp [h])
 ·cases a with
  | nil =>
   simp only [List.append_nil] at h1
   simp only [List.nil_append] at h2
   subst h1
   rcases h (p ++ [i]) y s' (by rw [← h2]; simp) x hx with h | h
   ·exact .inl (by simp [h])
   ·simp only [List.mem_append, List.mem_singleton] at h
    rcases h with h | rfl
    ·exact .inr h
    ·exact .inl (by simp)
  | cons b a =>
   simp only [List.cons_append, List.cons.injEq] at h2
   obtain ⟨rfl, h2⟩ := h2
   rcases h p' y (a ++ i :: s) (by rw [h1]; simp) x hx with h | h
   ·exact .inl (by simp [h])
   ·exact .inr h
theorem any_order (hR : RegOK H pol f ops need) (hneed : ∀ (j : Nat) (o : Oper), ops[j]? = some o → needS pol f ops need.fx need.own tab j = true → need.strict.contains j = true) (hneedx : ∀ (j : Nat) (o : Oper), ops[j]? = some o → needX ops need.fx tab j = true → need.fix.contains j = true) : ∀ (l l' done : List Nat) (st : St) (r : AExit × St), Bef tab done l → Bef tab done l' → Closed ops done l → Closed ops done l' → l.Perm l' → stOK H.free pol f ops need.own need.hp tab l = true → NB (wrAll pol f ops) st.env → PendOK (pend pol f ops l) st.env → (NoLoc pol f ops ∨ r.1 = .normal) →
  evOpsD P H pol f ops need pl l st = some r → ∃ r', evOpsD P H pol f ops need pl l' st = some r' ∧ EqR pol f ops r r'
 | [], l', done, st, r, _, _, _, _, hperm, _, _, _, _, h => by
  have : l' = [] := List.nil_perm.1 hperm
  subst this
  exact ⟨r, h, .inl rfl⟩
 | i :: l, l', done, st, r, hb, hb', hc, hc', hperm, hok, hnb, hpd, hN, h => by
  have hm : i ∈ l' := hperm.subset (by simp)
  obtain ⟨p, s, rfl⟩ := List.append_of_mem hm
  have hnd := closed_nodup hc'
  have hip : i ∉ p := by
   intro hp
   have := (List.nodup_append.1 hnd).2.2 i hp i (by simp)
   exact this rfl
  obtain ⟨x, hx, hdep⟩ := hc.2.1
  have hperm' : l.Perm (p ++ s) := by
   have : (i :: l).Perm (i :: (p ++ s)) := hperm.trans List.perm_middle
   exact List.Perm.cons_inv this
  have hil : i ∉ l := (List.nodup_cons.1 (closed_nodup hc)).1
  simp only [stOK, Bool.and_eq_true] at hok
  -- what stands ahead of it in the other order
  have hpair : ∀ j ∈ p, ∀ y, ops[j]? = some y → MayPass H pol f ops need i x j y := by
   intro j hj y hy
   have hjl : j ∈ l := by
    have : j ∈ i :: l := hperm.symm.subset (by simp [hj])
    rcases List.mem_cons.1 this with rfl | h
    ·exact absurd hj hip
    ·exact h
   have hndone : i ∉ done := hc.1
   have h1 : hangs tab i j = false := by
    cases hh : hangs tab i j with
    | false => rfl
    | true =>
     exfalso
     obtain ⟨p1, p2, rfl⟩ := List.append_of_mem hj
     rcases hb' p1 j (p2 ++ i :: s) (by simp) i hh with h | h
     ·exact hndone h
     ·exact hip (by simp [h])
   have h2 : hangs tab j i = false := by
    cases hh : hangs tab j i with
    | false => rfl
    | true =>
     exfalso
     rcases hb [] i l rfl j hh with h | h
     ·exact closed_notin hc j h (by simp [hjl])
     ·cases h
   have := List.all_eq_true.1 hok.1 j hjl
   rw [h1, Bool.false_or] at this
   unfold pairOK at this
   rw [hx, hy] at this
   simp only [Bool.and_eq_true, Bool.or_eq_true, Bool.not_eq_true'] at this
   obtain ⟨g2, ((⟨g1, g3⟩ | ⟨g1, g3⟩) | g1) | g1⟩ := this
   rotate_left
   ·exact ⟨g2, .inr (.inl ⟨g1, g3⟩)⟩
   ·exact ⟨g2, .inr (.inr g1)⟩
   ·refine ⟨g2, .inl ⟨?_, fun _ => .inr g1⟩⟩
    simp only [farOK, Bool.and_eq_true] at g1
    exact g1.1.1.1
   refine ⟨g2, .inl ⟨g1, fun hl => .inl ⟨?_, ?_⟩⟩⟩
   rotate_left
   ·rcases Bool.eq_false_or_eq_true (isFix need.fx x) with hf | hf
    ·exact .inr (.inl ⟨hf, hneedx j y hy (needx_of hx hf h1 h2)⟩)
    ·rcases Bool.eq_false_or_eq_true (need.own.contains i) with ho | ho
     ·exact .inr (.inr ho)
     ·exact .inl (hneed j y hy (needs_of hx g1 hl hf ho h1 h2))
   rw [hl, Bool.true_and] at g3
   exact g3
  rw [evOpsD_cons] at h
  cases h1 : evOne P H pol f ops need pl i st with
  | none => rw [h1] at h; cases h
  | some r1 =>
   obtain ⟨e1, st1⟩ := r1
   rw [h1] at h
   have hnb1 := nb_step hR hx hnb h1
   have hex := one_end hR hx hnb h1
   rcases hex with rfl | ⟨ch, rfl⟩
   ·simp only at h
    have hpd1 : PendOK (pend pol f ops l) st1.env := PendOK.step hR hil hx (hpd.sub (fun a ha => by simp [ha])) h1
    obtain ⟨r1, k1, k2⟩ := any_order hR hneed hneedx l (p ++ s) (i :: done) st1 r hb.tail hb'.erase hc.2.2 (closed_erase hip hc') hperm' hok.2 hnb1 hpd1 hN h
    by_cases hp0 : p = []
    ·subst hp0
     refine ⟨r1, ?_, k2⟩
     rw [List.nil_append, evOpsD_cons, h1]
     exact k1
    ·have hN1 : NoLoc pol f ops ∨ r1.1 = .normal := by
      rcases hN with hN | hN
      ·exact .inl hN
      ·rcases k2 with rfl | ⟨k3, _⟩
       ·exact .inr hN
       ·exact .inr (k3 ▸ hN)
     have hnd2 : (i :: (p ++ s)).Nodup := List.perm_middle.nodup_iff.1 hnd
     obtain ⟨r2, m1, m2⟩ := move hR hx p s st r1 hnb (hpd.sub (fun a ha => by
       rcases List.mem_cons.1 ha with rfl | ha
       ·simp
       ·exact List.mem_cons_of_mem _ (hperm'.symm.subset ha))) hnd2 hN1 hpair (fun j hj => by
      have := closed_lt hc' j (by simp [hj])
      exact ⟨_, Array.getElem?_eq_getElem this⟩) (by rw [evOpsD_cons, h1]; exact k1)
     exact ⟨r2, m1, k2.trans m2⟩
   ·simp only at h
    cases h
    have hp0 : p = [] := by
     cases p with
     | nil => rfl
     | cons j p =>
      exfalso
      obtain ⟨y, hy⟩ : ∃ y, ops[j]? = some y := by
       obtain ⟨o, ho, _⟩ := hc'.2.1
       exact ⟨o, ho⟩
      rcases (hpair j (by simp) y hy).2 with ⟨hr, _⟩ | ⟨hl, _⟩ | hl
      ·have he := (one_rdr hx hr h1).1
       cases he
      ·have he := one_load hx hl h1
       cases he
      ·rcases hN with hN | hN
       ·rw [hN j y hy] at hl; cases hl
       ·cases hN
    subst hp0
    refine ⟨(.pan ch, st1), ?_, .inl rfl⟩
    rw [List.nil_append, evOpsD_cons, h1]
theorem closed_edge : ∀ (l : List Nat) {done : List Nat} {i : Nat} {o : Oper} {e : Edge}, Closed ops done l → i ∈ l → ops[i]? = some o → e ∈ o.after → Region.binds .any e = true → e.on ∈ done ∨ l.idxOf e.on < l.idxOf i
 | [], _, _, _, _, _, hi, _, _, _ => by cases hi
 | a :: l, done, i, o, e, h, hi, ho, he, hb => by
  obtain ⟨h1, ⟨o', ho', hdep⟩, h3⟩ := h
  by_cases hai : a = i
  ·subst hai
   rw [ho] at ho'; cases ho'
   exact .inl (hdep e he hb)
  ·have hi' : i ∈ l := (List.mem_cons.1 hi).resolve_left (fun e => hai e.symm)
   have hne : (a == i) = false := by simpa using hai
   rcases closed_edge l h3 hi' ho he hb with h | h
   ·rcases List.mem_cons.1 h with e1 | h
    ·right
     rw [e1, List.idxOf_cons_self, List.idxOf_cons, hne]
     simp
    ·exact .inl h
   ·right
    rw [List.idxOf_cons, List.idxOf_cons, hne]
    simp only [cond_false]
    cases a == e.on <;> simp only [cond_true, cond_false] <;> omega
def Idx (tab : List (Nat × Nat)) (l : List Nat) : Prop := ∀ x y, y ∈ l → hangs tab x y = true → l.idxOf x < l.idxOf y
theorem idx_bits {l2 : List Nat} {i : Nat} {tab : List (Nat × Nat)} (hi : i ∈ l2) (hI : Idx tab l2) {m k x : Nat} (hm : m.testBit x = true → l2.idxOf x < l2.idxOf i) (hk : l2.idxOf k < l2.idxOf i) (h : (m ||| (1 <<< k) ||| ancOf tab k).testBit x = true) : l2.idxOf x < l2.idxOf i := by
 rw [Nat.testBit_or, Nat.testBit_or, Bool.or_eq_true, Bool.or_eq_true] at h
 rcases h with (h | h) | h
 ·exact hm h
 ·rw [Nat.shiftLeft_eq, Nat.one_mul, Nat.testBit_two_pow] at h
  rw [← of_decide_eq_true h]; exact hk
 ·have hkl : k ∈ l2 := by
   have := List.idxOf_lt_length_iff.2 hi
   exact List.idxOf_lt_length_iff.1 (by omega)
  exact Nat.lt_trans (hI x k hkl h) hk
theorem ancTab_idx {F : List (Nat × Nat)} {l2 : List Nat} (hc : Closed ops [] l2) (hF : ∀ q ∈ F, ahead l2 q.1 q.2 = true) : ∀ (l : List Nat) (tab : List (Nat × Nat)), Idx tab l2 → Idx (ancTab ops F l tab) l2
 | [], _, h => h
 | i :: l, tab, h => by
  refine ancTab_idx hc hF l _ ?_
  cases ho : ops[i]? with
  | none => exact h
  | some o =>
   intro x y hy hxy
   unfold hangs at hxy
   rw [ancOf] at hxy
   split at hxy
   rotate_left
   ·exact h x y hy hxy
   rename_i e; subst e
   have e1 : ∀ (es : List Edge) (m : Nat), (∀ e ∈ es, e ∈ o.after) → (m.testBit x = true → l2.idxOf x < l2.idxOf i) →
     (es.foldl (fun m e => if Region.binds .any e then m ||| (1 <<< e.on) ||| ancOf tab e.on else m) m).testBit x = true → l2.idxOf x < l2.idxOf i := by
    intro es
    induction es with
    | nil => intro m _ hm h; exact hm h
    | cons e es ih =>
     intro m hes hm hx
     refine ih _ (fun e' he' => hes e' (by simp [he'])) (fun hb => ?_) hx
     simp only at hb
     split at hb
     ·rename_i hbind
      rcases closed_edge l2 hc hy ho (hes e (by simp)) hbind with h0 | h0
      ·cases h0
      ·exact idx_bits hy h hm h0 hb
     ·exact hm hb
   have e2 : ∀ (qs : List (Nat × Nat)) (m : Nat), (∀ q ∈ qs, q ∈ F) → (m.testBit x = true → l2.idxOf x < l2.idxOf i) →
     (qs.foldl (fun m q => if q.2 = i then m ||| (1 <<< q.1) ||| ancOf tab q.1 else m) m).testBit x = true → l2.idxOf x < l2.idxOf i := by
    intro qs
    induction qs with
    | nil => intro m _ hm h; exact hm h
    | cons q qs ih =>
     intro m hqs hm hx
     refine ih _ (fun e' he' => hqs e' (by simp [he'])) (fun hb => ?_) hx
     simp only at hb
     split at hb
     ·rename_i hq
      have h0 := hF q (hqs q (by simp))
      simp only [ahead, decide_eq_true_eq] at h0
      rw [hq] at h0
      exact idx_bits hy h hm h0 hb
     ·exact hm hb
   exact e2 F _ (fun _ h => h) (fun hm => e1 o.after.toList 0 (fun e he => by simpa using he) (fun h0 => by simp at h0) hm) hxy
theorem tabF_ok (l : List Nat) {l2 : List Nat} {F : List (Nat × Nat)} (hc : Closed ops [] l2) (hF : ∀ q ∈ F, ahead l2 q.1 q.2 = true) : Bef (tabF ops l F) [] l2 := by
 have hI : Idx (tabF ops l F) l2 := ancTab_idx hc hF l [] (fun x y _ h => by simp [hangs, ancOf] at h)
 intro p y s e x hx
 right
 have h1 := hI x y (by rw [e]; simp) hx
 subst e
 have hy : y ∉ p := fun hm => by
  have := (List.nodup_append.1 (closed_nodup hc)).2.2 y hm y (by simp)
  exact this rfl
 rw [show (p ++ y :: s).idxOf y = p.length by rw [List.idxOf_append, if_neg hy]; simp] at h1
 refine Classical.byContradiction fun hn => ?_
 rw [List.idxOf_append, if_neg hn] at h1
 omega
theorem fan_leaf {id : Nat} {ws : List (List Nat)} {st s1 : St} {l' : List Nat} (hall : ∀ i, i < ops.size → i ∈ l') : ∀ (t : DT) (F : List (Nat × Nat)), evFan P H pol f id ops ws st t F = some s1 → (∀ q ∈ F, ahead l' q.1 q.2 = true) →
  ∃ l F', drawAll H.free pol f id ops l ws F' = true ∧ (∀ q ∈ F', ahead l' q.1 q.2 = true) ∧ evOpsD P H pol f ops (pol.needs f id) (ops.toList.filterMap isPlaceOp) l st = some (.normal, s1)
 | .leaf l, F, h, hF => by
  unfold evFan at h
  split at h
  ·rename_i hd
   cases hr : evOpsD P H pol f ops (pol.needs f id) (ops.toList.filterMap isPlaceOp) l st with
   | none => rw [hr] at h; cases h
   | some r =>
    obtain ⟨e, s2⟩ := r
    rw [hr] at h
    cases e <;> cases h
    exact ⟨l, F, hd, hF, hr⟩
  ·cases h
 | .node i j a b, F, h, hF => by
  unfold evFan at h
  split at h
  ·rename_i hc
   obtain ⟨hi, hj, hij⟩ := hc
   cases h1 : evFan P H pol f id ops ws st a ((i, j) :: F) with
   | none => rw [h1] at h; cases h
   | some sa =>
    rw [h1] at h
    simp only at h
    cases h2 : evFan P H pol f id ops ws st b ((j, i) :: F) with
    | none => rw [h2] at h; cases h
    | some sb =>
     rw [h2] at h
     simp only at h
     split at h
     ·rename_i hs
      cases h
      have hsab := sameSt_eq hs
      subst hsab
      have hne : l'.idxOf i ≠ l'.idxOf j := by
       intro e
       have h3 := List.getElem_idxOf (List.idxOf_lt_length_iff.2 (hall i hi))
       have h4 := List.getElem_idxOf (List.idxOf_lt_length_iff.2 (hall j hj))
       simp only [e] at h3
       exact hij (h3.symm.trans h4)
      rcases Nat.lt_or_gt_of_ne hne with hlt | hlt
      ·exact fan_leaf hall a _ h1 (fun q hq => by
        rcases List.mem_cons.1 hq with rfl | hq
        ·simpa [ahead] using hlt
        ·exact hF q hq)
      ·exact fan_leaf hall b _ h2 (fun q hq => by
        rcases List.mem_cons.1 hq with rfl | hq
        ·simpa [ahead] using hlt
        ·exact hF q hq)
     ·cases h
  ·cases h
theorem evOpsD_ops : ∀ (l : List Nat) {st : St} {r : AExit × St}, evOpsD P H pol f ops need pl l st = some r → evOps P H pol f ops pl l st = some r
 | [], _, _, h => h
 | i :: l, st, r, h => by
  rw [evOpsD_cons] at h
  unfold evOps
  unfold evOne at h
  simp only [opK_eq] at h ⊢
  cases ho : ops[i]? with
  | none => rw [ho] at h; cases h
  | some o =>
   rw [ho] at h
   simp only at h ⊢
   cases hw : wantedA ops o st.env with
   | none => rw [hw] at h; cases h
   | some w =>
    rw [hw] at h
    cases w with
    | false => exact evOpsD_ops l h
    | true =>
     simp only at h ⊢
     cases hop : opA P pol f pl o st with
     | none => rw [hop] at h; cases h
     | some q =>
      rw [hop] at h
      cases q with
      | val v st1 =>
       simp only at h ⊢
       by_cases hn : ((notBox v || locA pol f o) && ownOK need.own need.hp i o st.env) = true
       ·rw [if_pos hn] at h; exact evOpsD_ops l h
       ·rw [if_neg hn] at h; cases h
      | pan ch st1 => exact h
      | call t as st1 =>
       simp only at h ⊢
       cases hc : H.call t as st1.S with
       | none => rw [hc] at h; cases h
       | some eS =>
        obtain ⟨e, S1⟩ := eS
        rw [hc] at h
        cases e with
        | ret v =>
         simp only at h ⊢
         by_cases hn : (notBox v && ((!need.strict.contains i || freeCall H.free o || sameOld st1.S S1) && (!need.fix.contains i || freeCall H.free o || sameFix st1.env need.fx st1.S S1))) = true
         ·rw [if_pos hn] at h; exact evOpsD_ops l h
         ·rw [if_neg hn] at h; cases h
        | pan ch => exact h
theorem closed_perm {l l' : List Nat} (h : Closed ops [] l) (h' : Closed ops [] l') (hl : l.length = ops.size) (hl' : l'.length = ops.size) : l.Perm l' := by
 have one : ∀ {l : List Nat}, Closed ops [] l → l.length = ops.size → l.Perm (List.range ops.size) := by
  intro l h hl
  have hn := closed_nodup h
  have hsub : l ⊆ List.range ops.size := fun j hj => List.mem_range.2 (closed_lt h j hj)
  have hin : ∀ a, a ∈ l ↔ a ∈ List.range ops.size := by
   intro a
   refine ⟨fun h => hsub h, fun h => Classical.byContradiction fun hna => ?_⟩
   have hn' : (a :: l).Nodup := List.nodup_cons.2 ⟨hna, hn⟩
   have := hn'.length_le_of_subset (l₂ := List.range ops.size) (fun b hb => by
    rcases List.mem_cons.1 hb with rfl | hb
    ·exact h
    ·exact hsub hb)
   simp at this; omega
  rw [List.perm_iff_count]
  intro a
  by_cases ha : a ∈ l
  ·rw [hn.count, List.nodup_range.count, if_pos ha, if_pos ((hin a).1 ha)]
  ·rw [hn.count, List.nodup_range.count, if_neg ha, if_neg (fun h => ha ((hin a).2 h))]
 exact (one h hl).trans (one h' hl').symm
theorem wholeB_closed {m : Region.Mode} {l : List Nat} (h : wholeB m ops l = true) : ClosedM m ops [] l ∧ l.length = ops.size := by
 simp only [wholeB, Bool.and_eq_true, beq_iff_eq] at h
 exact ⟨closedB_closed h.1, h.2⟩
theorem lin_whole {m : Region.Mode} {lw : List Nat} (h : wholeB m ops lw = true) (t : Nat) : Closed ops [] (Region.linearise m ops t) ∧ (Region.linearise m ops t).length = ops.size := by
 obtain ⟨h1, h2⟩ := wholeB_closed h
 obtain ⟨h3, h4⟩ := lin_closed h1 h2 ops.size t (Array.replicate ops.size false) [] (by simp) (by intro i hi; simp [hi]) (by simp) List.nodup_nil (by simp)
 exact ⟨closed_any h3, h4⟩
theorem sched_whole {l : List Nat} {ws : List (List Nat)} (hl : wholeB .any ops l = true) (h : (!Region.departs ops || schedB ops ws) = true) (mixed : Bool) (t : Nat) :
  Closed ops [] (Region.schedule mixed ops t) ∧ (Region.schedule mixed ops t).length = ops.size := by
 unfold Region.schedule
 split
 ·exact lin_whole hl t
 ·rename_i hd
  simp only [Bool.or_eq_true, Bool.not_eq_true'] at h hd
  have h := h.resolve_left (fun e => hd (.inr e))
  unfold schedB at h
  split at h
  ·simp only [Bool.and_eq_true] at h
   split
   ·exact lin_whole h.1 _
   ·exact lin_whole h.2 _
  ·cases h
theorem maskD_eq {a b : List AV} (h : PanEnv pol f ops a b) : maskD pol f ops a = maskD pol f ops b := by
 unfold maskD
 apply List.ext_getElem?
 intro t
 simp only [List.getElem?_mapIdx]
 by_cases hlt : t < a.length
 ·have hlt' : t < b.length := by rw [← h.len]; exact hlt
  rw [List.getElem?_eq_getElem hlt, List.getElem?_eq_getElem hlt']
  simp only [Option.map_some, Option.some.injEq]
  have ea : a.getD t .undef = a[t] := by simp [List.getD, hlt]
  have eb : b.getD t .undef = b[t] := by simp [List.getD, hlt']
  by_cases hd : ops.toList.any (fun o => o.dst == some t) = true
  ·rw [if_pos hd, if_pos hd]
  ·rw [if_neg hd, if_neg hd]
   have hd' : ∀ o ∈ ops.toList, o.dst ≠ some t := by
    intro o ho e
    exact hd (List.any_eq_true.2 ⟨o, ho, by simp [e]⟩)
   obtain ⟨h1, h2⟩ := h.all t hd'
   rw [ea, eb] at h1 h2
   by_cases hc : ops.toList.any (fun o => (consumed pol f o).contains t) = true
   ·rw [if_pos hc, if_pos hc, h1]
   ·rw [if_neg hc, if_neg hc]
    exact h2 (fun o ho hm => hc (List.any_eq_true.2 ⟨o, ho, by simpa using hm⟩))
 ·have hlt' : ¬ t < b.length := by rw [← h.len]; exact hlt
  rw [List.getElem?_eq_none (by omega), List.getElem?_eq_none (by omega)]
theorem maskD_rel {C : Ctx} {d : Nat} {env : List AV} {tmps : Array Value} (hE : EnvRel C d env tmps) : EnvRel C d (maskD pol f ops env) tmps := by
 refine ⟨by simp [maskD, hE.1], fun t v hv => ?_⟩
 simp only [maskD, List.getElem?_mapIdx] at hv
 cases he : env[t]? with
 | none => rw [he] at hv; cases hv
 | some u =>
  rw [he] at hv
  simp only [Option.map_some, Option.some.injEq] at hv
  obtain ⟨c, hc, hr⟩ := hE.2 t u he
  refine ⟨c, hc, ?_⟩
  subst hv
  split
  ·simp [VRel]
  ·split
   ·exact (hr.strip _).1
   ·exact hr
theorem closed_all {l : List Nat} (h : Closed ops [] l) (hl : l.length = ops.size) {i : Nat} (hi : i < ops.size) : i ∈ l := by
 refine Classical.byContradiction fun hna => ?_
 have hn' : (i :: l).Nodup := List.nodup_cons.2 ⟨hna, closed_nodup h⟩
 have := hn'.length_le_of_subset (l₂ := List.range ops.size) (fun b hb => by
  rcases List.mem_cons.1 hb with rfl | hb
  ·exact List.mem_range.2 hi
  ·exact List.mem_range.2 (closed_lt h b hb))
 simp at this; omega
theorem fan_some {id : Nat} {ws : List (List Nat)} {st s1 : St} : ∀ (t : DT) (F : List (Nat × Nat)), evFan P H pol f id ops ws st t F = some s1 → ∃ l F', drawAll H.free pol f id ops l ws F' = true
 | .leaf l, F, h => by
  unfold evFan at h
  split at h
  ·rename_i hd; exact ⟨l, F, hd⟩
  ·cases h
 | .node i j a b, F, h => by
  unfold evFan at h
  split at h
  ·cases h1 : evFan P H pol f id ops ws st a ((i, j) :: F) with
   | none => rw [h1] at h; cases h
   | some sa => exact fan_some a _ h1
  ·cases h
theorem evOpsD_end : ∀ (l : List Nat) {st : St} {r : AExit × St}, evOpsD P H pol f ops need pl l st = some r → r.1 = .normal ∨ ∃ ch, r.1 = .pan ch
 | [], st, r, h => by cases h; exact .inl rfl
 | i :: l, st, r, h => by
  rw [evOpsD_cons] at h
  cases h1 : evOne P H pol f ops need pl i st with
  | none => rw [h1] at h; cases h
  | some r1 =>
   obtain ⟨e, s⟩ := r1
   rw [h1] at h
   have he : e = .normal ∨ ∃ ch, e = .pan ch := by
    unfold evOne at h1
    repeat' split at h1
    all_goals first | (cases h1; exact .inl rfl) | (cases h1; exact .inr ⟨_, rfl⟩) | cases h1
   rcases he with rfl | ⟨ch, rfl⟩
   ·exact evOpsD_end l h
   ·cases h; exact .inr ⟨ch, rfl⟩
theorem draw_one (hH : HSound P H) {id : Nat} {l l' : List Nat} {ws : List (List Nat)} {F : List (Nat × Nat)} {st : St} {r : AExit × St} (hall : drawAll H.free pol f id ops l ws F = true) (hnbx : noBoxAt st.env (pol.wr f id) = true) (hlp : LpIn st.env [])
  (hc' : Closed ops [] l') (hlen' : l'.length = ops.size) (hF' : ∀ q ∈ F, ahead l' q.1 q.2 = true) (hN : NoLoc pol f ops ∨ r.1 = .normal) (h : evOpsD P H pol f ops (pol.needs f id) (ops.toList.filterMap isPlaceOp) l st = some r) :
  ∃ r', evOpsD P H pol f ops (pol.needs f id) (ops.toList.filterMap isPlaceOp) l' st = some r' ∧ EqR pol f ops r r' := by
 have hall' : (drawOK H.free pol f ops (pol.needs f id).own (pol.needs f id).hp l ws F && (List.range ops.size).all (fun j => (!needS pol f ops (pol.needs f id).fx (pol.needs f id).own (tabF ops l F) j || (pol.needs f id).strict.contains j) && (!needX ops (pol.needs f id).fx (tabF ops l F) j || (pol.needs f id).fix.contains j)) && (pol.needs f id).fx.all (fun t => !(ops.toList.flatMap fun o => o.dst.toList ++ consumed pol f o).contains t) && (ops.toList.flatMap fun o => o.dst.toList ++ consumed pol f o).all (fun t => (pol.wr f id).contains t)) = true := hall
 rw [Bool.and_eq_true, Bool.and_eq_true, Bool.and_eq_true] at hall'
 obtain ⟨⟨⟨hdr, hnd⟩, hfxa⟩, hwr⟩ := hall'
 have hfxs : ∀ t ∈ (pol.needs f id).fx, t ∉ wrFull pol f ops := by
  intro t ht hm
  have h1 := List.all_eq_true.1 hfxa t ht
  have : (ops.toList.flatMap fun o => o.dst.toList ++ consumed pol f o).contains t = true := by simpa [wrFull] using hm
  rw [this] at h1
  cases h1
 have hneeds : ∀ (j : Nat) (o : Oper), ops[j]? = some o → needS pol f ops (pol.needs f id).fx (pol.needs f id).own (tabF ops l F) j = true → (pol.needs f id).strict.contains j = true := by
  intro j o ho hj
  have hlt : j < ops.size := (Array.getElem?_eq_some_iff.1 ho).1
  have := (Bool.and_eq_true _ _ ▸ List.all_eq_true.1 hnd j (List.mem_range.2 hlt)).1
  rw [hj] at this
  simpa using this
 have hneedx : ∀ (j : Nat) (o : Oper), ops[j]? = some o → needX ops (pol.needs f id).fx (tabF ops l F) j = true → (pol.needs f id).fix.contains j = true := by
  intro j o ho hj
  have hlt : j < ops.size := (Array.getElem?_eq_some_iff.1 ho).1
  have := (Bool.and_eq_true _ _ ▸ List.all_eq_true.1 hnd j (List.mem_range.2 hlt)).2
  rw [hj] at this
  simpa using this
 have hdr' : (wholeB .any ops l && (!Region.departs ops || schedB ops ws) && ops.toList.all (fun o => rdr pol f o || wrt pol f o || locA pol f o) && stOK H.free pol f ops (pol.needs f id).own (pol.needs f id).hp (tabF ops l F) l && locOK pol f ops && F.all (fun q => ahead l q.1 q.2)) = true := hdr
 rw [Bool.and_eq_true, Bool.and_eq_true, Bool.and_eq_true, Bool.and_eq_true, Bool.and_eq_true] at hdr'
 obtain ⟨⟨⟨⟨⟨hwhole, _⟩, hkinds⟩, hstat⟩, hloc⟩, hFl⟩ := hdr'
 obtain ⟨hc, hlen⟩ := wholeB_closed hwhole
 have hK : Kinds pol f ops := by
  intro i o ho
  have := List.all_eq_true.1 hkinds o (List.mem_of_getElem? (by rw [Array.getElem?_toList]; exact ho))
  simp only [Bool.or_eq_true] at this
  exact or_assoc.1 this
 have hfull : ∀ t ∈ wrFull pol f ops, ∀ cs, st.env.getD t .undef ≠ .box cs := by
  intro t ht cs e
  have h1 := List.all_eq_true.1 hwr t ht
  have := List.all_eq_true.1 hnbx t (by simpa using h1)
  rw [e] at this
  cases this
 have hnb : NB (wrAll pol f ops) st.env := by
  intro t ht
  refine hfull t ?_
  obtain ⟨o, ho, hm⟩ := List.mem_flatMap.1 ht
  refine List.mem_flatMap.2 ⟨o, ho, ?_⟩
  rcases List.mem_append.1 hm with hm | hm
  ·split at hm
   ·cases hm
   ·exact List.mem_append_left _ hm
  ·exact List.mem_append_right _ hm
 have hpd : PendOK (pend pol f ops l) st.env := by
  refine ⟨fun d hd => ?_, fun d hd t off he => ?_⟩
  ·obtain ⟨j, _, o, ho, _, hdst⟩ := mem_pend.1 hd
   exact hfull d (mem_full ho (.inr hdst))
  ·have hlt : t < st.env.length := by
    refine Classical.byContradiction fun hn => ?_
    simp [List.getD, hn, AV.undef] at he
   have := hlp t d off (by simpa [List.getD, hlt] using he)
   cases this
 exact any_order ⟨fun {g args S e S'} => hH.free, hfxs, hK, locOK_fine hloc⟩ hneeds hneedx l l' [] st r (tabF_ok l hc (fun q hq => List.all_eq_true.1 hFl q hq)) (tabF_ok l hc' hF') hc hc' (closed_perm hc hc' hlen hlen') hstat hnb hpd hN h
theorem draw_ok (hF : Fine P) (hH : HSound P H) : DrawOK P H pol := by
 intro f id ops st x st' h C d b tmps defers cm hfn hR hl k
 -- the region's order is drawn
 have hst : step P (b.mach tmps defers (.code (.region id ops true) :: k) cm C.w) =
   .next (b.mach tmps defers (.inRegion ops (Region.schedule (P.follows .mixedOrders) ops (C.w.tape C.w.drawn (.order b.fn id))) :: k) cm C.drew.w) :=
  step_lone_go (by simp [stepG, stepG.exec, FB.at, choose, Sem.run, Question.forced, Question.cut]; rfl)
 have hR' : FrRel C.drew d b st tmps defers cm := ⟨hR.env.drew, hR.heap.drew, hR.defs.mono (Ext.drew (fun _ => False) C), hR.par.mono (Ext.drew (fun _ => False) C)⟩
 have hx : Ext (Deep d) C C.drew := Ext.drew _ C
 have hlp : LpIn st.env (ops.toList.filterMap isPlaceOp) := hl.mono (by simp)
 have sched : ∀ {l : List Nat} {ws : List (List Nat)} {F : List (Nat × Nat)}, drawAll H.free pol f id ops l ws F = true → wholeB .any ops l = true ∧ (!Region.departs ops || schedB ops ws) = true := by
  intro l ws F hall
  have h1 : drawOK H.free pol f ops (pol.needs f id).own (pol.needs f id).hp l ws F = true := by
   unfold drawAll at hall
   simp only [Bool.and_eq_true] at hall
   exact hall.1.1.1
  unfold drawOK at h1
  simp only [Bool.and_eq_true] at h1
  exact h1.1.1.1.1
 have goes : ∀ {l' : List Nat} {x' : AExit} {st2 : St}, l' = Region.schedule (P.follows .mixedOrders) ops (C.w.tape C.w.drawn (.order b.fn id)) → evOpsD P H pol f ops (pol.needs f id) (ops.toList.filterMap isPlaceOp) l' st = some (x', st2) →
   Goes P C d b (b.mach tmps defers (.code (.region id ops true) :: k) cm C.w) k x' st2 := by
  intro l' x' st2 e k1
  subst e
  exact (ops_ok hF hH _ (evOpsD_ops _ k1) hR' hlp (d := d) (k := k)).trans hx (.one hst)
 unfold evDraw at h
 split at h
 rotate_left
 ·cases h
 rename_i l ws hor
 split at h
 ·-- one order stands for all
  split at h
  rotate_left
  ·cases h
  rename_i hchk
  rw [Bool.and_eq_true] at hchk
  obtain ⟨hall, hnbx⟩ := hchk
  obtain ⟨hwhole, hsch⟩ := sched hall
  obtain ⟨hc', hlen'⟩ := sched_whole hwhole hsch (P.follows .mixedOrders) (C.w.tape C.w.drawn (.order b.fn id))
  cases hr : evOpsD P H pol f ops (pol.needs f id) (ops.toList.filterMap isPlaceOp) l st with
  | none => rw [hr] at h; cases h
  | some r =>
   rw [hr] at h
   have hN : NoLoc pol f ops ∨ r.1 = .normal := by
    obtain ⟨e, s⟩ := r
    cases e with
    | pan ch =>
     left
     simp only at h
     split at h
     ·cases h
     ·rename_i hn
      intro j o ho
      cases hlo : locA pol f o with
      | false => rfl
      | true => exact absurd (List.any_eq_true.2 ⟨o, List.mem_of_getElem? (by rw [Array.getElem?_toList]; exact ho), hlo⟩) (by simpa using hn)
    | normal => exact .inr rfl
    | exit id' => exact absurd (evOpsD_end _ hr) (by simp)
    | goto l' => exact absurd (evOpsD_end _ hr) (by simp)
    | ret => exact absurd (evOpsD_end _ hr) (by simp)
   obtain ⟨r', k1, k2⟩ := draw_one hH hall hnbx hl hc' hlen' (by intro q hq; cases hq) hN hr
   obtain ⟨x', st2⟩ := r'
   have goes := goes rfl k1
   rcases k2 with rfl | ⟨he, ⟨ch, hch⟩, hpan⟩
   ·split at h
    ·rename_i ch st3 heq
     cases heq
     split at h
     ·cases h
     cases h
     obtain ⟨C', t', ds', cm', g1, g2, g3, g4⟩ := goes
     exact ⟨C', t', ds', cm', g1, ⟨maskD_rel g2.env, g2.heap, g2.defs, g2.par⟩, .inl ⟨_, rfl⟩, g4⟩
    ·cases h
     exact goes
   ·obtain ⟨xe, st1⟩ := r
    simp only at he hch hpan
    subst hch
    subst he
    simp only at h
    split at h
    ·cases h
    cases h
    obtain ⟨C', t', ds', cm', g1, g2, g3, g4⟩ := goes
    refine ⟨C', t', ds', cm', g1, ⟨?_, ?_, ?_, ?_⟩, .inl ⟨_, rfl⟩, g4⟩
    ·show EnvRel C' d (maskD pol f ops st1.env) t'
     rw [maskD_eq hpan.env]
     exact maskD_rel g2.env
    ·show HeapRel C' st1.S
     rw [hpan.S]; exact g2.heap
    ·show DefRel C' st1.defs ds'
     rw [hpan.defs]; exact g2.defs
    ·show ParRel C' b st1.par cm'
     rw [hpan.par]; exact g2.par
 ·-- more than one order
  rename_i t ht
  split at h
  rotate_left
  ·cases h
  rename_i hnbx
  cases hfan : evFan P H pol f id ops ws st t [] with
  | none => rw [hfan] at h; cases h
  | some s1 =>
   rw [hfan] at h
   cases h
   -- some leaf tells that the orders are whole
   obtain ⟨l0, F0, h0⟩ := fan_some t [] hfan
   obtain ⟨hwhole, hsch⟩ := sched h0
   obtain ⟨hc', hlen'⟩ := sched_whole hwhole hsch (P.follows .mixedOrders) (C.w.tape C.w.drawn (.order b.fn id))
   obtain ⟨hc0, hlen0⟩ := wholeB_closed hwhole
   have hmem : ∀ i, i < ops.size → i ∈ Region.schedule (P.follows .mixedOrders) ops (C.w.tape C.w.drawn (.order b.fn id)) := fun i hi => closed_all hc' hlen' hi
   obtain ⟨l1, F1, g1, g2, g3⟩ := fan_leaf hmem t [] hfan (by intro q hq; cases hq)
   obtain ⟨r', k1, k2⟩ := draw_one hH g1 hnbx hl hc' hlen' g2 (.inr rfl) g3
   rcases k2 with rfl | ⟨_, ⟨ch, hch⟩, _⟩
   ·exact goes rfl k1
   ·cases hch
theorem handler_sound (hF : Fine P) (pol : Pol) (n : Nat) : HSound P (handler P pol n) := handler_ok hF (fun _ hH => draw_ok hF hH) n
end Go.Ab
namespace Go.Ab
open Go.RowKit
variable {P : Program}
def ctx0 (W : World) : Ctx :=
 { w := W, L := fun b _ => if b < W.heap.size then froz else [], φ := fun _ => 0, ψ := fun _ => 0, σ := fun _ => 0, κ := fun _ => 0, n := 0, β := fun _ _ => 0, base := W.heap.size }
theorem ctx0_heap (W : World) : HeapRel (ctx0 W) { heap := [], next := 0 } where
 n := rfl
 nodup := List.nodup_nil
 obj := fun _ _ h => by cases h
 fresh := fun b o h => if_neg (Nat.not_lt.2 h)
 base := ⟨Nat.le_refl _, fun b o h => if_pos h⟩
theorem ctx0_below {W : World} {X : List Nat → Prop} {C' : Ctx} (h : Ext X (ctx0 W) C') : Below W.heap.size W C'.w := by
 refine ⟨h.old.os, h.old.tape, h.old.output, h.old.size, fun k hk => ?_⟩
 have hL : ∀ o, (ctx0 W).L k o = froz := fun o => if_pos hk
 have hsame : ∀ o, Same W C'.w k o := fun o => (h.fr k o (hL o)).2
 obtain ⟨x, hx⟩ : ∃ x, W.heap[k]? = some x := ⟨_, Array.getElem?_eq_getElem hk⟩
 rw [hx]
 by_cases hc : isCellsO x = true
 ·cases x <;> simp [isCellsO] at hc
  rename_i cs e fr
  obtain ⟨cs1, h1⟩ := h.old.fr k cs e fr hk hx
  obtain ⟨cs2, fr2, h2, h3, _⟩ := h.shape k cs e fr hx
  rw [h1] at h2
  cases h2
  rw [h1]
  congr 2
  apply Array.ext h3
  intro i hi1 hi2
  have := (hsame i).1
  simp only [World.cell?, h1, hx] at this
  simpa [hi1, hi2] using this
 ·exact (hsame 0).2 x hx (by simpa using hc)
theorem calls_of_ev (hF : Fine P) (pol : Pol) {n : Nat} {f : FuncId} {args : List AV} {v : AV} {p' : AMode} {S' : Sto} (h : runFn P (handler P pol n) n pol f .none args { heap := [], next := 0 } = some (.ret v, p', S'))
  (W : World) {cargs : List Value} (ha : ListRel (ctx0 W) args none 0 cargs) :
  Calls P f cargs.toArray W fun e W' => ∃ C' cv, e = .returned cv ∧ VRel C' v (some [3]) cv ∧ W' = C'.w ∧ Below W.heap.size W W' := by
 intro cs
 have hH := handler_sound hF pol n
 have := runFn_ok hF hH (draw_ok hF hH) h (C := ctx0 W) (d := 0) (ctx0_heap W) (ListRel.any _ _ _ _ _ ha) (b := { fn := f, kind := .normal, rnd := none, K := fun _ => cs, head := by intro h; cases h }) rfl rfl (cm := .returning) ⟨rfl, rfl⟩
 obtain ⟨C', fr, cm, hst, h1, h2, h3, h4, h5, h6, h7, h8⟩ := this.2.out
 obtain ⟨g1, g2, fn', cv, g3, g4, g5⟩ := h8
 exact ⟨.returned cv, C'.w, fr, ⟨C', cv, rfl, g5, rfl, ctx0_below h7⟩, hst, h3, g1, h1, h2, fn', g3, g4⟩
section
variable {H : Type} (enc : TypeId × Value → H) (P) (W : World)
def Reads (t : TypeId) (X : Type) (g : X → List AV) (p : X → Prop) : Prop :=
 ∀ (fuel : Nat) (cs : List Value) (x : DataW H × List MemPlace), DataW.trod enc P W 0 (fun _ => true) true fuel t cs = some x →
  ∃ y, p y ∧ ListRel (ctx0 W) (g y) none 0 cs ∧ ∀ c ∈ cs, flat c
variable {P} {W} {enc}
theorem one_rel {C : Ctx} {v : AV} {c : Value} (hp : isPl v = false) (h : VRel C v none c) : ListRel C [v] none 0 [c] := by
 simp only [ListRel, sub, Option.map_none]
 exact ⟨c, [], rfl, hp, h, rfl⟩
theorem reads_bool {t : TypeId} (ht : P.underlying t = some .bool) : Reads P enc W t Bool (fun b => [.bool b]) (fun _ => True) := by
 intro fuel cs x h
 obtain ⟨b, rfl, _⟩ := DataW.trod_bool ht h
 exact ⟨b, trivial, one_rel rfl (by simp only [VRel]), by simp [flat]⟩
theorem reads_int {t : TypeId} {k : IntKind} (ht : P.underlying t = some (.int k)) : Reads P enc W t Int (fun n => [.int k n]) (fun n => (Lit.int k n).wf = true) := by
 intro fuel cs x h
 obtain ⟨n, rfl, _, hw⟩ := DataW.trod_int ht h
 exact ⟨n, hw, one_rel rfl (by simp only [VRel]), by simp [flat]⟩
theorem reads_string {t : TypeId} (ht : P.underlying t = some .string) : Reads P enc W t (List UInt8) (fun s => [.str s]) (fun s => s.length ≤ maxLen) := by
 intro fuel cs x h
 obtain ⟨s, rfl, _, hw⟩ := DataW.trod_string ht h
 exact ⟨s.data.toList, by simpa using hw, one_rel rfl (by simp only [VRel]; exact ⟨s, rfl, rfl⟩), by simp [flat]⟩
theorem cell_old {a : Addr} {v : Value} (h : W.cell? a = some v) : a.spot = none ∧ a.block < W.heap.size := by
 unfold World.cell? at h
 cases hb : W.heap[a.block]? with
 | none => rw [hb] at h; cases h
 | some o =>
  rw [hb] at h
  have hlt := (Array.getElem?_eq_some_iff.1 hb).1
  cases o <;> first | (cases h; done) | skip
  simp only at h
  split at h
  ·cases h
  ·rename_i hs
   exact ⟨by simpa using hs, hlt⟩
theorem cells_frozen {vs : List AV} : ∀ {cs : List Value} {i b o : Nat}, ListRel (ctx0 W) vs none i cs → (∀ c ∈ cs, flat c) → (∀ (j : Nat) c, cs[j]? = some c → W.cell? ⟨b, o + j, none⟩ = some c) → CellsRel (ctx0 W) vs b o := by
 intro cs i b o h hf hc
 refine cells_of (C := ctx0 W) h hf (fun j c hj => ⟨hc j c hj, ?_⟩)
 exact if_pos (cell_old (hc j c hj)).2
theorem cells?_get {a : Addr} {n : Nat} {cs : List Value} (h : W.cells? 0 a n = some cs) : cs.length = n ∧ ∀ (j : Nat) c, cs[j]? = some c → W.cell? (a.add j) = some c := by
 unfold World.cells? at h
 rw [if_pos (Nat.zero_le _)] at h
 refine ⟨by simpa using mapM_some_length h, fun j c hj => ?_⟩
 have hlt := (List.getElem?_eq_some_iff.1 hj).1
 have hl : cs.length = n := by simpa using mapM_some_length h
 have := mapM_some_get h j j (by rw [List.getElem?_eq_getElem (by simpa using (by omega : j < n)), List.getElem_range])
 rw [hj] at this
 exact this
theorem add_add' (a : Addr) (h : a.spot = none) (i : Nat) : a.add i = ⟨a.block, a.off + i, none⟩ := by
 obtain ⟨b, o, s⟩ := a
 have h : s = none := h
 subst h
 unfold Addr.add
 split <;> simp_all
theorem rows_frozen {X : Type} {g : X → List AV} {es : Nat} {b : Nat} : ∀ {xs : List X} {o : Nat}, (∀ (i : Nat) x, xs[i]? = some x → ∃ cs, (g x).length = es ∧ ListRel (ctx0 W) (g x) none 0 cs ∧ (∀ c ∈ cs, flat c) ∧ ∀ (j : Nat) c, cs[j]? = some c → W.cell? ⟨b, o + i * es + j, none⟩ = some c) →
  RowsRel (ctx0 W) (xs.map g) b o es
 | [], _, _ => by simp [RowsRel]
 | x :: xs, o, h => by
  simp only [List.map_cons, RowsRel]
  obtain ⟨cs, h1, h2, h3, h4⟩ := h 0 x rfl
  refine ⟨h1, cells_frozen h2 h3 (fun j c hj => by simpa using h4 j c hj), rows_frozen (fun i y hy => ?_)⟩
  obtain ⟨cs', k1, k2, k3, k4⟩ := h (i + 1) y (by simpa using hy)
  refine ⟨cs', k1, k2, k3, fun j c hj => ?_⟩
  have := k4 j c hj
  rwa [show o + (i + 1) * es + j = o + es + i * es + j by rw [Nat.add_mul]; omega] at this
def slA {X : Type} (es : Nat) (g : X → List AV) : Option (List X) → AV
 | none => .nilsl
 | some xs => .sl false es (xs.map g)
theorem exists_list {X : Type} {n : Nat} {R : Nat → X → Prop} (h : ∀ i, i < n → ∃ x, R i x) : ∃ xs : List X, xs.length = n ∧ ∀ (i : Nat) x, xs[i]? = some x → R i x := by
 induction n with
 | zero => exact ⟨[], rfl, by simp⟩
 | succ n ih =>
  obtain ⟨xs, h1, h2⟩ := ih (fun i hi => h i (by omega))
  obtain ⟨x, hx⟩ := h n (by omega)
  refine ⟨xs ++ [x], by simp [h1], fun i y hy => ?_⟩
  by_cases hi : i < n
  ·rw [List.getElem?_append_left (by omega)] at hy; exact h2 i y hy
  ·have hi' := (List.getElem?_eq_some_iff.1 hy).1
   simp at hi'
   have : i = n := by omega
   subst this
   rw [List.getElem?_append_right (by omega), h1] at hy
   simp at hy
   subst hy; exact hx
theorem reads_slice {t e : TypeId} {X : Type} {g : X → List AV} {p : X → Prop} (ht : P.underlying t = some (.slice e)) (hes : 0 < P.cellsOf e) (hr : Reads P enc W e X g p) :
  Reads P enc W t (Option (List X)) (fun o => [slA (P.cellsOf e) g o]) (fun o => ∀ xs, o = some xs → xs.length ≤ maxLen ∧ ∀ x ∈ xs, p x) := by
 intro fuel cs x h
 rcases DataW.trod_slice ht h with ⟨rfl, _⟩ | ⟨a, len, cap, elems, rest, n, _, rfl, _, _, hl, hm, hlen, hel, hspare, _⟩
 ·exact ⟨none, by simp, one_rel rfl (by simp only [slA, VRel]), by simp [flat]⟩
 ·-- each element
  have each : ∀ i, i < len → ∃ y, p y ∧ ∃ cs', W.cells? 0 (a.add (i * P.cellsOf e)) (P.cellsOf e) = some cs' ∧ ListRel (ctx0 W) (g y) none 0 cs' ∧ ∀ c ∈ cs', flat c := by
   intro i hi
   have := hel i hi
   rw [List.getElem?_eq_getElem (by omega)] at this
   obtain ⟨cs', h1, h2⟩ := Option.bind_eq_some_iff.1 this
   obtain ⟨y, hy, k1, k2⟩ := hr _ _ _ h2
   exact ⟨y, hy, cs', h1, k1, k2⟩
  obtain ⟨xs, hxl, hxs⟩ := exists_list each
  refine ⟨some xs, ?_, one_rel rfl ?_, by simp [flat]⟩
  ·intro xs' e; cases e
   refine ⟨by omega, fun x hx => ?_⟩
   obtain ⟨i, hi⟩ := List.getElem?_of_mem hx
   exact (hxs i x hi).1
  ·simp only [slA, VRel]
   obtain ⟨b, o, s⟩ := a
   by_cases h0 : cap = 0
   ·have : xs = [] := List.eq_nil_of_length_eq_zero (by omega)
    subst this
    have hl0 : len = 0 := by omega
    subst hl0
    exact ⟨b, o, cap, s, by simp, by simp, hes, by simp [RowsRel], by simp, .inr h0⟩
   ·-- room, or an element, shows where it lies
    by_cases hn : len = 0
    ·have hxn : xs = [] := List.eq_nil_of_length_eq_zero (by omega)
     subst hxn
     subst hn
     have hsp : s = none := by
      have := (hspare rfl).2 0 (by omega)
      simp only [Nat.zero_add] at this
      rw [List.getElem?_eq_getElem (by rw [(hspare rfl).1]; omega)] at this
      obtain ⟨cs', h1, _⟩ := Option.bind_eq_some_iff.1 this
      obtain ⟨hcl, hcg⟩ := cells?_get h1
      have h2 := hcg 0 _ (List.getElem?_eq_getElem (by omega))
      have h3 := (cell_old h2).1
      simpa [Addr.add] using h3
     subst hsp
     exact ⟨b, o, cap, none, by simp, by simp, hes, by simp [RowsRel], by simp, .inl rfl⟩
    ·have hsp : s = none := by
      obtain ⟨y, _, cs', h1, _⟩ := each 0 (by omega)
      obtain ⟨hcl, hcg⟩ := cells?_get h1
      have h2 := hcg 0 _ (List.getElem?_eq_getElem (by omega))
      have h3 := (cell_old h2).1
      simpa [Addr.add] using h3
     subst hsp
     refine ⟨b, o, cap, none, by simp [hxl], by simp [hxl]; exact hl, hes, rows_frozen (fun i x hx => ?_), by simp, .inl rfl⟩
     obtain ⟨_, cs', h1, h2, h3⟩ := hxs i x hx
     obtain ⟨hcl, hcg⟩ := cells?_get h1
     refine ⟨cs', by rw [← h2.length, hcl], h2, h3, fun j c hj => ?_⟩
     have := hcg j c hj
     rw [add_add' ⟨b, o, none⟩ rfl, add_add' ⟨b, o + i * P.cellsOf e, none⟩ rfl] at this
     exact this
def ReadsFields (P : Program) (enc : TypeId × Value → H) (W : World) (fs : List Field) (off : Nat) (X : Type) (g : X → List AV) (p : X → Prop) (size : Nat) : Prop :=
 ∀ (n : Nat) (cs : List Value) (_xs : List (DataW H × List MemPlace)), cs.length = size → (∀ (i : Nat) (f : Field), fs[i]? = some f → ∃ x, DataW.trod enc P W 0 (fun _ => true) true n f.type ((cs.drop f.offset).take (P.cellsOf f.type)) = some x) →
  ∃ y, p y ∧ ListRel (ctx0 W) (g y) none 0 (cs.drop off) ∧ ∀ c ∈ cs.drop off, flat c
theorem fields_nil {size : Nat} : ReadsFields P enc W [] size Unit (fun _ => []) (fun _ => True) size := by
 intro n cs xs hl _
 rw [← hl, List.drop_length]
 exact ⟨(), trivial, by simp [ListRel], by simp⟩
theorem fields_cons {f : Field} {fs : List Field} {off size : Nat} {X Y : Type} {g : X → List AV} {g' : Y → List AV} {p : X → Prop} {p' : Y → Prop} (hr : Reads P enc W f.type X g p) (ho : f.offset = off)
  (_hs : off + P.cellsOf f.type ≤ size) (hrs : ReadsFields P enc W fs (off + P.cellsOf f.type) Y g' p' size) : ReadsFields P enc W (f :: fs) off (X × Y) (fun z => g z.1 ++ g' z.2) (fun z => p z.1 ∧ p' z.2) size := by
 intro n cs xs hl h
 obtain ⟨x, hx⟩ := h 0 f rfl
 obtain ⟨y, h1, h2, h3⟩ := hr _ _ _ hx
 obtain ⟨z, k1, k2, k3⟩ := hrs n cs xs hl (fun i f' hf => h (i + 1) f' (by simpa using hf))
 have hsplit : cs.drop off = (cs.drop off).take (P.cellsOf f.type) ++ cs.drop (off + P.cellsOf f.type) := by
  rw [← List.drop_drop, List.take_append_drop]
 rw [ho] at h2 h3
 refine ⟨(y, z), ⟨h1, k1⟩, ?_, ?_⟩
 ·rw [hsplit]
  refine ListRel.append h2 ?_
  exact ListRel.any _ none 0 _ _ k2
 ·rw [hsplit]
  intro c hc
  rcases List.mem_append.1 hc with h | h
  ·exact h3 c h
  ·exact k3 c h
theorem reads_struct {t : TypeId} {fs : Array Field} {X : Type} {g : X → List AV} {p : X → Prop} (ht : P.underlying t = some (.struct fs)) (h : ReadsFields P enc W fs.toList 0 X g p (P.cellsOf t)) : Reads P enc W t X g p := by
 intro fuel cs x hx
 obtain ⟨xs, n, _, _, hl, hxl, hf⟩ := DataW.trod_struct ht hx
 obtain ⟨y, h1, h2, h3⟩ := h n cs xs hl (fun i f hi => by
  have hi' : fs[i]? = some f := by simpa using hi
  rw [hf i f hi']
  have := (Array.getElem?_eq_some_iff.1 hi').1
  exact ⟨_, List.getElem?_eq_getElem (by omega)⟩)
 exact ⟨y, h1, by simpa using h2, by simpa using h3⟩
theorem arg_cell {t : TypeId} {v : Value} {d : DataW H} {ps : List MemPlace} {X : Type} {g : X → List AV} {p : X → Prop} (hr : Reads P enc W t X g p) (hv : flat v) (h : DataW.Trod enc P W 0 (fun _ => true) true t v d ps) :
  ∃ y, p y ∧ ListRel (ctx0 W) (g y) none 0 [v] := by
 obtain ⟨fuel, hf⟩ := h
 have hc : v.cells.toList = [v] := by rw [flat_cells hv]
 rw [hc] at hf
 obtain ⟨y, h1, h2, _⟩ := hr _ _ _ hf
 exact ⟨y, h1, h2⟩
theorem arg_agg {t : TypeId} {cs : Array Value} {d : DataW H} {ps : List MemPlace} {X : Type} {g : X → List AV} {p : X → Prop} (hr : Reads P enc W t X g p) (h : DataW.Trod enc P W 0 (fun _ => true) true t (.agg cs) d ps) :
  ∃ y, p y ∧ ListRel (ctx0 W) [.agg (g y)] none 0 [.agg cs] := by
 obtain ⟨fuel, hf⟩ := h
 obtain ⟨y, h1, h2, h3⟩ := hr _ _ _ hf
 refine ⟨y, h1, one_rel rfl ?_⟩
 simp only [VRel]
 exact ⟨cs.toList, by simp, h3, h2⟩
end
end Go.Ab
namespace Go.Ab
open Go.RowKit Go.ChangeShapes
section
variable {H : Type} {enc : TypeId × Value → H} {P : Program}
theorem trodAll_back (hl : laidOutB P = true) {W W' : World} (hb : Below W.heap.size W W') : ∀ {ts : List TypeId} {vs : List Value} {ds : List (DataW H)} {ps : List MemPlace},
  (∀ t ∈ ts, P.readableRec t = true ∧ t < P.types.size) → DataW.TrodAll enc P W 0 (fun _ => true) true ts vs ds ps → DataW.TrodAll enc P W' 0 (fun b => decide (b < W.heap.size)) true ts vs ds ps
 | [], vs, ds, ps, _, h => by
  obtain ⟨rfl, rfl, rfl⟩ := trodAll_nil h
  exact trodAll_mk0
 | t :: ts, vs, ds, ps, ht, h => by
  obtain ⟨v, vs', d, ds', p, q, rfl, rfl, rfl, h1, h2⟩ := trodAll_cons h
  obtain ⟨r1, r2⟩ := ht t (by simp)
  have hlt : ∀ x ∈ p, x.block < W.heap.size := by obtain ⟨m, hm⟩ := h1; exact DataW.trod_lt m _ _ _ hm
  exact trodAll_cons_mk (Below.trod hl r1 r2 h1 hb hlt) (trodAll_back hl hb (fun t' ht' => ht t' (by simp [ht'])) h2)
def trueSpec (s : ChangeSpec) (k : Nat) : Prop := s.vars = [] ∧ ∀ (H : Type) (ds : List (DataW H)), ds.length = k → (s.fn H ds).results = [.lit (.bool true)] ∧ (s.fn H ds).args = ds ∧ (s.fn H ds).vars = []
theorem lifted_of_ev {C : Checked} {os : Os} (started : os.Started) {f : FuncId} {fn : Func} {s : ChangeSpec} {conds : List PathCond} {rt : TypeId} (own : ownKnob C.prog.godebug = none) (noInit : C.prog.inits.idxOf? f = none) (hfn : C.prog.funcs[f]? = some fn)
  (witness : ∃ (w : World) (tape : Tape) (i : Input), w.os = os ∧ (w.forCall tape i).Shaped C.prog ∧ i.vars = [] ∧ Input.okWide C.prog (w.forCall tape i) .any w.heap.size f i ∧
   s.pre6 enc C.prog fn conds false (w.forCall tape i).memory i.args ∧ (Assume.holds {}) C.prog (lone (Frame.enter C.prog f i.args .normal) [] (w.forCall tape i)))
  (hF : Fine C.prog) (laidOut : laidOutB C.prog = true) (readable : ∀ t ∈ fn.params.toList, C.prog.readableRec t = true ∧ t < C.prog.types.size) (hrt : fn.resultTypes = #[rt]) (hbool : C.prog.underlying rt = some .bool)
  (hspec : trueSpec s fn.params.size) (pol : Pol)
  (hev : ∀ (W : World) (args : List Value) (ds : List (DataW H)) (ps : List MemPlace), (∃ base, ∀ (j : Nat) t v, fn.params[j]? = some t → args[j]? = some v → Value.okWide C.prog W .any base t v) →
   DataW.TrodAll enc C.prog W 0 (fun _ => true) true fn.params.toList args ds ps →
   ∃ avs, ListRel (ctx0 W) avs none 0 args ∧ ∃ n p' S', runFn C.prog (handler C.prog pol n) n pol f .none avs { heap := [], next := 0 } = some (.ret (.bool true), p', S')) :
  ReturnsInHanded {} C os f .any (s.pre6 enc C.prog fn conds false) (s.post enc C.prog fn false true false false) := by
 refine returnsInHanded_of_change_sized (C := C) own started noInit hfn witness ?_
 intro W base args ds gs before hval hW hcnd hsz _
 have hW' := hW
 obtain ⟨p, q, hA, hV, rfl, hfz, hnd⟩ := hW
 rw [hspec.1] at hV
 obtain ⟨rfl, rfl⟩ := trodVars_none hV
 obtain ⟨avs, hrel, n, p', S', hrun⟩ := hev W args.toList ds p ⟨base, fun j t v ht hv => hval j t v ht (by simpa using hv)⟩ hA
 have hlen : ∀ {ts : List TypeId} {vs : List Value} {ds : List (DataW H)} {ps : List MemPlace}, DataW.TrodAll enc C.prog W 0 (fun _ => true) true ts vs ds ps → ds.length = ts.length := by
  intro ts
  induction ts with
  | nil => intro vs ds ps h; obtain ⟨_, rfl, _⟩ := trodAll_nil h; rfl
  | cons t ts ih =>
   intro vs ds ps h
   obtain ⟨v, vs', d, ds', p, q, rfl, rfl, rfl, h1, h2⟩ := trodAll_cons h
   simp [ih h2]
 obtain ⟨sp1, sp2, sp3⟩ := hspec.2 H (ds ++ []) (by simp [hlen hA])
 have hc := calls_of_ev hF pol hrun W hrel
 rw [Array.toArray_toList] at hc
 refine hc.mono fun e W' ⟨C', cv, he, hv, hw, hb⟩ => ?_
 have hcv : cv = .bool true := by simpa only [VRel] using hv
 subst hcv
 refine ⟨_, he, ds, [], _, [], p, [], hW', ?_, ?_, ?_, hb.frame _, fun h => by cases h⟩
 ·rw [sp1, hrt]
  exact trodAll_mk1 (shut_bool hbool _)
 ·rw [sp2, List.append_nil]
  exact trodAll_back laidOut hb readable hA
 ·rw [sp3, hspec.1]; rfl
end
end Go.Ab
