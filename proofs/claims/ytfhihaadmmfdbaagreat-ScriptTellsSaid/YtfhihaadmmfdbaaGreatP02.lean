/- Raw and Check tell of one event as the document says, whatever the event (pomanderlaw19.ScriptTells). No conditions. -/
import Derived.Test.YtfhihaadmmfdbaaGreatP01
import Derived.Laws.IdiomStrings
import Derived.Laws.Externs
import Derived.KernelRfl
import Derived.Calls
import Derived.RangeFuncRecord
namespace Go.Ab
variable {P : Program} {C : Ctx} {n : Nat}
theorem flat_not_agg {v : AV} {p : Option (List Nat)} {c : Value} (h : VRel C v p c) (hf : flat c) : ∀ cs, v ≠ .agg cs := by
 intro cs e
 subst e
 simp only [VRel] at h
 obtain ⟨cs', rfl, _⟩ := h
 exact hf
theorem BoxRel.drop {q : List Nat} {b : Nat} {cs : List AV} {j0 : Nat} (k : Nat) (h : BoxRel C cs b q j0) : BoxRel C (cs.drop k) b q (j0 + k) := by
 rw [BoxRel.iff] at h ⊢
 intro j v hv
 rw [List.getElem?_drop] at hv
 have := h (k + j) v hv
 rwa [show j0 + (k + j) = j0 + k + j by omega] at this
theorem BoxRel.valsS {q : List Nat} {b : Nat} : ∀ {cs : List AV} {j0 : Nat}, BoxRel C cs b q j0 → Vals C (cs.map AV.strip0) b j0
 | [], j0, _ => Vals.nil C b j0
 | v :: cs, j0, h => by
  simp only [BoxRel] at h
  obtain ⟨⟨c, h1, h2, h3, h4, h5, h6⟩, hr⟩ := h
  exact Vals.cons h1 h4 (h6.strip0 none).1 hr.valsS
theorem valAt_strip {t : TypeId} {cs : List AV} (h : ∀ v ∈ cs, ∀ x, v ≠ .agg x) : valAt P t (cs.map AV.strip0) = (valAt P t cs).map AV.strip1 := by
 unfold valAt
 cases hu : P.underlying t with
 | none => rfl
 | some d =>
  have one : (cs.map AV.strip0).head? = cs.head?.map AV.strip1 := by
   cases cs with
   | nil => rfl
   | cons v cs =>
    simp only [List.map_cons, List.head?_cons, Option.map_some, Option.some.injEq]
    have := h v (by simp)
    cases v <;> first | rfl | exact absurd rfl (this _)
  have agg : (if P.cellsOf t ≤ (cs.map AV.strip0).length then some (AV.agg ((cs.map AV.strip0).take (P.cellsOf t))) else none) =
    (if P.cellsOf t ≤ cs.length then some (AV.agg (cs.take (P.cellsOf t))) else none).map AV.strip1 := by
   rw [List.length_map]
   split
   ·simp [AV.strip1, List.map_take]
   ·rfl
  cases d <;> first | exact agg | exact one
theorem BoxRel.not_agg {q : List Nat} {b : Nat} {cs : List AV} {j0 : Nat} (h : BoxRel C cs b q j0) : ∀ v ∈ cs, ∀ x, v ≠ .agg x := by
 rw [BoxRel.iff] at h
 intro v hv
 obtain ⟨j, hj⟩ := List.getElem?_of_mem hv
 obtain ⟨c, _, _, _, hf, _, hr⟩ := h j v hj
 exact flat_not_agg hr hf
theorem box_load {q : List Nat} {b : Nat} {cs : List AV} (h : BoxRel C cs b q 0) {t : TypeId} {off : Nat} {v : AV} (hv : valAt P t ((cs.drop off).map AV.strip0) = some v) :
  ∃ c, (loadVar t ⟨b, off, none⟩).run P C.w = .ok c C.w ∧ VRel C v none c := by
 have hd := h.drop off
 simp only [Nat.zero_add] at hd
 exact loadVar_run hd.valsS hv
theorem EnvRel.box {d : Nat} {env : List AV} {tmps : Array Value} (hE : EnvRel C d env tmps) {s : Nat} {cs : List AV} (h : env.getD s .undef = .box cs) :
  BoxRel C cs (C.β d s) [d + 2, s] 0 ∧ env[s]? = some (.box cs) := by
 have hr := hE.getD s
 rw [h] at hr
 simp only [VRel] at hr
 obtain ⟨d', s', hp, _, hb⟩ := hr
 obtain ⟨h1, h2⟩ := List.cons.inj (Option.some.inj hp)
 obtain ⟨h2, _⟩ := List.cons.inj h2
 have : d' = d := by omega
 subst this; subst h2
 refine ⟨hb, ?_⟩
 simp only [List.getD] at h
 cases he : env[s]? with
 | none => rw [he] at h; simp [AV.undef] at h
 | some x => rw [he] at h; simp at h; rw [h]
theorem load_run {d : Nat} {env : List AV} {tmps : Array Value} {S : Sto} (hE : EnvRel C d env tmps) (hS : HeapRel C S) {t : TypeId} {a v : AV} {ca : Value} {s : Nat} (ha : VRel C a (some [d + 2, s]) ca) (hv : loadA P S env t a = some v) :
  ∃ c, (Instr.loadAt t ca).run P C.w = .ok c C.w ∧ VRel C v none c := by
 unfold loadA at hv
 split at hv
 ·split at hv
  ·rename_i id off cs hg
   simp only [VRel] at ha
   obtain ⟨rfl, _⟩ := ha
   obtain ⟨c, hc, hr⟩ := box_load (P := P) (hS.get hg).2 hv
   exact ⟨c, by simp [Instr.loadAt, Instr.sureAddr, hc], hr⟩
  ·cases hv
 ·split at hv
  ·rename_i s' off cs hg
   simp only [VRel] at ha
   obtain ⟨d', r, hp, rfl⟩ := ha
   obtain ⟨h1, _⟩ := List.cons.inj (Option.some.inj hp)
   have : d' = d := by omega
   subst this
   obtain ⟨c, hc, hr⟩ := box_load (P := P) (hE.box hg).1 hv
   exact ⟨c, by simp [Instr.loadAt, Instr.sureAddr, hc], hr⟩
  ·cases hv
 ·simp only [VRel] at ha
  obtain ⟨b, o, rfl, hc⟩ := ha
  obtain ⟨c, hc', hr⟩ := loadVar_run (P := P) hc.vals hv
  exact ⟨c, by simp [Instr.loadAt, Instr.sureAddr, hc'], hr⟩
 ·split at hv
  ·rename_i id r off _ es rows hg
   split at hv
   ·rename_i row hrow
    simp only [VRel] at ha
    obtain ⟨rfl, _⟩ := ha
    obtain ⟨_, h1, h2, h3, h4, h5⟩ := hS.get hg
    have hd := h4.drop r
    have hdr : rows.drop r = row :: rows.drop (r + 1) := by
     have hlt := (List.getElem?_eq_some_iff.1 hrow).1
     rw [List.drop_eq_getElem_cons hlt]
     congr 1
     exact (List.getElem?_eq_some_iff.1 hrow).2
    rw [hdr] at hd
    obtain ⟨_, h6, _⟩ := hd
    obtain ⟨c, hc', hr⟩ := loadVar_run (P := P) (h6.vals.drop off) hv
    refine ⟨c, ?_, hr⟩
    simp only [Instr.loadAt, Instr.sureAddr, Sem.run_bind, Sem.run_pure, Result.andThen_ok]
    rw [h2]
    exact hc'
   ·cases hv
  ·cases hv
 ·cases hv
theorem storeVar_run (w : World) {t : TypeId} {b off : Nat} {cv : Value} (hs : cv.cells.size = P.cellsOf t) (hz : P.cellsOf t ≠ 0)
  (hc : ∀ j, j < cv.cells.size → (w.cell? ⟨b, off + j, none⟩).isSome = true) (hf : ∀ j, j < cv.cells.size → w.frozen? ⟨b, off + j, none⟩ = false) (h1 : ∀ x ∈ cv.cells.toList, flat x) :
  (storeVar t ⟨b, off, none⟩ cv).run P w = .ok () (w.setCells b off cv.cells.toList) := by
 have hst := run_storeCells_cells (P := P) b off cv.cells.toList 0 w (by simpa using hc) (by simpa using hf) (fun x hx => flat_one (h1 x hx))
 simp only [Nat.add_zero] at hst
 simp [storeVar, run_sizeOf_of w hz, hs, hst]
def Ctx.wr (C : Ctx) (b o : Nat) (vs : List Value) : Ctx := { C with w := C.w.setCells b o vs }
theorem Ext.wr {b o : Nat} {vs : List Value} {X : List Nat → Prop} (hX : ∀ j, o ≤ j → j < o + vs.length → X (C.L b j) ∧ C.L b j ≠ froz) : Ext X C (C.wr b o vs) where
 n := Nat.le_refl _
 ids := fun _ _ => ⟨rfl, rfl, rfl, rfl⟩
 fr := fun b' o' h => by
  have hne : ¬ (b' = b ∧ o ≤ o' ∧ o' < o + vs.length) := by
   rintro ⟨rfl, h1, h2⟩
   exact (hX o' h1 h2).2 h
  refine ⟨h, ?_⟩
  obtain ⟨_, h2, h3, h4⟩ := setCells_heap vs C.w b o
  refine ⟨World.cell?_setCells_out b vs o C.w _ (fun hb _ => ?_), fun x hx hn => ?_⟩
  ·simp only at hb ⊢
   by_cases h1 : o' < o
   ·exact .inl h1
   ·exact .inr (Nat.le_of_not_lt fun h5 => hne ⟨hb, by omega, h5⟩)
  ·by_cases hb : b' = b
   ·subst hb; exact h4 x hx hn
   ·exact (h2 b' hb).trans hx
 keep := fun b' o' h hx => by
  have hne : ¬ (b' = b ∧ o ≤ o' ∧ o' < o + vs.length) := by
   rintro ⟨rfl, h1, h2⟩
   exact hx (hX o' h1 h2).1
  refine ⟨rfl, ?_⟩
  obtain ⟨_, h2, h3, h4⟩ := setCells_heap vs C.w b o
  refine ⟨World.cell?_setCells_out b vs o C.w _ (fun hb _ => ?_), fun x hx hn => ?_⟩
  ·simp only at hb ⊢
   by_cases h1 : o' < o
   ·exact .inl h1
   ·exact .inr (Nat.le_of_not_lt fun h5 => hne ⟨hb, by omega, h5⟩)
  ·by_cases hb : b' = b
   ·subst hb; exact h4 x hx hn
   ·exact (h2 b' hb).trans hx
 β := fun _ _ _ => rfl
 shape := fun b' cs e fr h => by
  obtain ⟨_, h2, h3, _⟩ := setCells_heap vs C.w b o
  by_cases hb : b' = b
  ·subst hb
   obtain ⟨cs', a, e'⟩ := h3 cs e fr h
   exact ⟨cs', fr, a, e', fun hf => hf⟩
  ·exact ⟨cs, fr, (h2 b' hb).trans h, rfl, fun hf => hf⟩
 old := setCells_old rfl rfl
theorem box_write {q : List Nat} (hq : q ≠ []) {b off : Nat} {cs vs : List AV} {cc : List Value} (hb : BoxRel C cs b q 0) (hr : ListRel C vs (some q) (off + 1) cc) (hf : ∀ y ∈ cc, flat y) (hlen : off + vs.length ≤ cs.length) :
  BoxRel (C.wr b off cc) (splice off cs vs) b q 0 ∧ Ext (fun l => l = q ++ [0]) C (C.wr b off cc) ∧ (∀ j, j < cc.length → (C.w.cell? ⟨b, off + j, none⟩).isSome = true) ∧ ∀ j, j < cc.length → C.w.frozen? ⟨b, off + j, none⟩ = false := by
 have hl := hr.length
 rw [BoxRel.iff] at hb
 have hat : ∀ j, j < cs.length → ∃ c, C.w.cell? ⟨b, j, none⟩ = some c ∧ OKB C b ∧ C.L b j = q ++ [0] := by
  intro j hj
  obtain ⟨c, h1, h2, h3, _⟩ := hb j _ (List.getElem?_eq_getElem hj)
  simp only [Nat.zero_add] at h1 h2 h3
  exact ⟨c, h1, h2, h3⟩
 have hc : ∀ j, j < cc.length → (C.w.cell? ⟨b, off + j, none⟩).isSome = true := by
  intro j hj
  obtain ⟨c, h1, _⟩ := hat (off + j) (by omega)
  rw [h1]; rfl
 have hfr : ∀ j, j < cc.length → C.w.frozen? ⟨b, off + j, none⟩ = false := by
  intro j hj
  obtain ⟨c, h1, h2, _⟩ := hat (off + j) (by omega)
  exact h2.nf (by rw [h1]; rfl)
 have hx : Ext (fun l => l = q ++ [0]) C (C.wr b off cc) := Ext.wr (fun j h1 h2 => by
  obtain ⟨c, _, _, h3⟩ := hat j (by omega)
  refine ⟨h3, ?_⟩
  rw [h3]
  intro e
  cases q with
  | nil => exact hq rfl
  | cons a q => cases q <;> simp [froz] at e)
 refine ⟨?_, hx, hc, hfr⟩
 rw [BoxRel.iff]
 intro j v hv
 simp only [Nat.zero_add]
 have hoff : ∀ k, k ≠ 0 → Off (fun l => l = q ++ [0]) (some (q ++ [k])) := by
  intro k hk p hp
  cases hp
  refine ⟨by simp, ?_, fun r e => ?_⟩
  ·intro e
   cases q with
   | nil => exact hq rfl
   | cons a q => cases q <;> simp [froz] at e
  ·rw [List.append_assoc] at e
   have := List.append_cancel_left e
   simp at this
   exact hk this.1
 by_cases h1 : j < off
 ·have hv' : cs[j]? = some v := by
   unfold splice at hv
   rw [List.append_assoc, List.getElem?_append_left (by simp; omega), List.getElem?_take] at hv
   simpa [h1] using hv
  obtain ⟨c, a1, a2, a3, a4, a5, a6⟩ := hb j v hv'
  simp only [Nat.zero_add] at a1 a2 a3 a6
  refine ⟨c, ?_, a2.mono hx, a3, a4, a5, VRel.mono hx v _ c (hoff (j + 1) (by omega)) (isPl_lp a5) a6⟩
  exact (World.cell?_setCells_out b cc off C.w _ (fun _ _ => .inl h1)).trans a1
 ·by_cases h2 : j < off + vs.length
  ·have hv' : vs[j - off]? = some v := by
    unfold splice at hv
    rw [List.append_assoc, List.getElem?_append_right (by simp; omega)] at hv
    have e : (cs.take off).length = off := by simp; omega
    rw [e, List.getElem?_append_left (by omega)] at hv
    exact hv
   obtain ⟨c, a1, a2, a3⟩ := hr.getElem? (j - off) v hv'
   have hjl := (List.getElem?_eq_some_iff.1 a1).1
   obtain ⟨_, _, b2, b3⟩ := hat j (by omega)
   refine ⟨c, ?_, b2.mono hx, b3, hf c (List.mem_of_getElem? a1), a2, ?_⟩
   ·have := World.cell?_setCells_in b cc off C.w hc (j - off) hjl
    rw [show off + (j - off) = j by omega] at this
    rw [List.getElem?_eq_getElem hjl] at a1
    cases a1
    exact this
   ·have e : off + 1 + (j - off) = j + 1 := by omega
    rw [e] at a3
    exact VRel.mono hx v _ c (hoff (j + 1) (by omega)) (isPl_lp a2) a3
  ·have hv' : cs[j]? = some v := by
    unfold splice at hv
    have e : (cs.take off ++ vs).length = off + vs.length := by simp; omega
    rw [List.getElem?_append_right (by omega), e, List.getElem?_drop] at hv
    rwa [show off + vs.length + (j - (off + vs.length)) = j by omega] at hv
   obtain ⟨c, a1, a2, a3, a4, a5, a6⟩ := hb j v hv'
   simp only [Nat.zero_add] at a1 a2 a3 a6
   refine ⟨c, ?_, a2.mono hx, a3, a4, a5, VRel.mono hx v _ c (hoff (j + 1) (by omega)) (isPl_lp a5) a6⟩
   exact (World.cell?_setCells_out b cc off C.w _ (fun _ _ => .inr (by simp; omega))).trans a1
theorem mem_put {id : Nat} {o : Obj} : ∀ {l : List (Nat × Obj)}, (l.map (·.1)).Nodup → ∀ {i : Nat} {x : Obj}, (i, x) ∈ Sto.putIn id o l → (i = id ∧ x = o) ∨ (i ≠ id ∧ (i, x) ∈ l)
 | [], _, _, _, h => by cases h
 | (j, y) :: l, hn, i, x, h => by
  simp only [List.map_cons, List.nodup_cons] at hn
  unfold Sto.putIn at h
  split at h
  ·rename_i e
   subst e
   rcases List.mem_cons.1 h with h | h
   ·cases h; exact .inl ⟨rfl, rfl⟩
   ·right
    refine ⟨fun e => ?_, List.mem_cons_of_mem _ h⟩
    exact hn.1 (by rw [← e]; exact List.mem_map.2 ⟨_, h, rfl⟩)
  ·rename_i hne
   rcases List.mem_cons.1 h with h | h
   ·cases h; exact .inr ⟨hne, by simp⟩
   ·rcases mem_put hn.2 h with h | h
    ·exact .inl h
    ·exact .inr ⟨h.1, List.mem_cons_of_mem _ h.2⟩
theorem keys_put {id : Nat} {o : Obj} : ∀ (l : List (Nat × Obj)), (Sto.putIn id o l).map (·.1) = l.map (·.1)
 | [] => rfl
 | (j, y) :: l => by
  unfold Sto.putIn
  split
  ·simp
  ·simp [keys_put l]
theorem HeapRel.put {C2 : Ctx} {S : Sto} {X : List Nat → Prop} (hS : HeapRel C S) {id : Nat} {o o' : Obj} (hg : S.get id = some o) (hx : Ext X C C2) (hn : C2.n = C.n) (hX : ∀ i r, i ≠ id → ¬ X (1 :: i :: r)) (hfr : ∀ b x, C2.w.heap.size ≤ b → C2.L b x = [])
  (ho : ObjRel C2 id o') : HeapRel C2 (S.put id o') := by
 refine ⟨hn.trans hS.n, by simp only [Sto.put, keys_put]; exact hS.nodup, fun i x hm => ?_, hfr, hS.base.mono hx⟩
 rcases mem_put hS.nodup hm with ⟨rfl, rfl⟩ | ⟨hne, hm⟩
 ·exact ⟨(hS.obj _ o (get_mem hg)).1, ho⟩
 ·have h1 := hS.obj i x hm
  exact ⟨h1.1, h1.2.mono hx (by rw [hS.n]; exact h1.1) (fun r => hX i r hne)⟩
theorem wr_fresh {b o : Nat} {vs : List Value} (hfr : ∀ b x, C.w.heap.size ≤ b → C.L b x = []) : ∀ b' x, (C.wr b o vs).w.heap.size ≤ b' → (C.wr b o vs).L b' x = [] := by
 intro b' x h
 have := (setCells_heap vs C.w b o).1
 exact hfr b' x (by show C.w.heap.size ≤ b'; rw [← this]; exact h)
theorem writeCells_eq {t : TypeId} {off : Nat} {cs cs' : List AV} {v : AV} (h : writeCells P t off cs v = some cs') :
  okTop v = true ∧ v.cells.length = P.cellsOf t ∧ P.cellsOf t ≠ 0 ∧ off + v.cells.length ≤ cs.length ∧ cs' = splice off cs v.cells := by
 unfold writeCells at h
 split at h
 ·rename_i hc
  cases h
  exact ⟨hc.1, hc.2.1, hc.2.2.1, hc.2.2.2, rfl⟩
 ·cases h
theorem storeHeap {d : Nat} {env : List AV} {tmps : Array Value} {ds : List Deferred} {S : Sto} (hE : EnvRel C d env tmps) (hS : HeapRel C S) {t : TypeId} {id off : Nat} {cs cs' : List AV} {x : Operand} {ca : Value} {s : Nat}
  (ha : VRel C (.ptr id off) (some [d + 2, s]) ca) (hg : S.get id = some (.cells cs)) (hw : writeCells P t off cs (opt env x) = some cs') :
  ∃ C', (Instr.storeAt t ca (Act.eval { tmps, defers := ds } x)).run P C.w = .ok () C'.w ∧ Out C C' d (stripAt env (tmpsOf [x])) tmps (S.put id (.cells cs')) := by
 obtain ⟨hok, hlen, hz, hle, rfl⟩ := writeCells_eq hw
 obtain ⟨g, hgd, hr, hf⟩ := take_cells hE (ds := ds) x [1, id] (off + 1) hok
 simp only [VRel] at ha
 obtain ⟨rfl, _⟩ := ha
 have hb : BoxRel (C.map g) cs (C.φ id) [1, id] 0 := BoxRel.map hgd.f cs _ _ _ (fun r => by simpa using hgd.h (id :: r)) (hS.get hg).2
 obtain ⟨h1, h2, h3, h4⟩ := box_write (by simp) hb hr hf hle
 have hcl := hr.length
 have hsz : (Act.eval { tmps, defers := ds } x).cells.size = P.cellsOf t := by rw [← hlen, ← hcl]; simp
 refine ⟨(C.map g).wr (C.φ id) off (Act.eval { tmps, defers := ds } x).cells.toList, ?_, ?_, ?_, ?_⟩
 ·simp only [Instr.storeAt, Instr.sureAddr, Sem.run_bind, Sem.run_pure, Result.andThen_ok]
  exact storeVar_run C.w hsz hz (fun j hj => h3 j (by simpa using hj)) (fun j hj => h4 j (by simpa using hj)) hf
 ·exact (hgd.env hE).mono h2 (fun t' r e => by simp at e)
 ·have hSm := hgd.heap hS
  exact hSm.put hg h2 rfl (fun i r hne e => by simp at e; exact hne e.1) (wr_fresh hSm.fresh) h1
 ·refine hgd.ext.trans (h2.weaken (fun l hl => ?_))
  subst hl
  exact ⟨1, [id, 0], rfl, .inl rfl⟩
theorem storeOwn {d : Nat} {env : List AV} {tmps : Array Value} {ds : List Deferred} {S : Sto} (hE : EnvRel C d env tmps) (hS : HeapRel C S) {t : TypeId} {s' off : Nat} {cs cs' : List AV} {x : Operand} {ca : Value} {s : Nat}
  (ha : VRel C (.lptr s' off) (some [d + 2, s]) ca) (hg : env.getD s' .undef = .box cs) (hw : writeCells P t off cs (opt env x) = some cs') :
  ∃ C', (Instr.storeAt t ca (Act.eval { tmps, defers := ds } x)).run P C.w = .ok () C'.w ∧ Out C C' d ((stripAt env (tmpsOf [x])).set s' (.box cs')) tmps S := by
 obtain ⟨hok, hlen, hz, hle, rfl⟩ := writeCells_eq hw
 obtain ⟨hb0, hs'⟩ := hE.box hg
 have hne : s' ∉ tmpsOf [x] := by
  intro hm
  cases x with
  | tmp t' =>
   simp [tmpsOf] at hm
   subst hm
   simp only [opt] at hok
   rw [hg] at hok
   simp [AV.clr, okTop] at hok
  | _ => simp [tmpsOf] at hm
 obtain ⟨g, hgd, hr, hf⟩ := take_cells hE (ds := ds) x [d + 2, s'] (off + 1) hok
 simp only [VRel] at ha
 obtain ⟨d', r', hp, rfl⟩ := ha
 obtain ⟨hd1, _⟩ := List.cons.inj (Option.some.inj hp)
 have hd : d' = d := by omega
 subst hd
 have hb : BoxRel (C.map g) cs (C.β d' s') [d' + 2, s'] 0 := BoxRel.map hgd.f cs _ _ _ (fun r => by simpa using hgd.other s' hne r) hb0
 obtain ⟨h1, h2, h3, h4⟩ := box_write (by simp) hb hr hf hle
 have hcl := hr.length
 have hsz : (Act.eval { tmps, defers := ds } x).cells.size = P.cellsOf t := by rw [← hlen, ← hcl]; simp
 have hlt : s' < tmps.size := by rw [← hE.1]; exact (List.getElem?_eq_some_iff.1 hs').1
 have hcs : tmps.getD s' Go.undef = .pointer (some ⟨C.β d' s', 0, none⟩) := by
  have := hE.getD s'
  rw [hg] at this
  simp only [VRel] at this
  obtain ⟨d'', t'', hp, hc, _⟩ := this
  obtain ⟨e1, e2⟩ := List.cons.inj (Option.some.inj hp)
  obtain ⟨e2, _⟩ := List.cons.inj e2
  have : d'' = d' := by omega
  subst this; subst e2
  exact hc
 refine ⟨(C.map g).wr (C.β d' s') off (Act.eval { tmps, defers := ds } x).cells.toList, ?_, ?_, ?_, ?_⟩
 ·simp only [Instr.storeAt, Instr.sureAddr, Sem.run_bind, Sem.run_pure, Result.andThen_ok]
  exact storeVar_run C.w hsz hz (fun j hj => h3 j (by simpa using hj)) (fun j hj => h4 j (by simpa using hj)) hf
 ·have hE1 : EnvRel (C.map g) d' ((stripAt env (tmpsOf [x])).set s' .unk) tmps := (hgd.env hE).setA s' (by simp [VRel])
  have hE2 := hE1.mono2 h2 rfl (fun t' v hv => by
   by_cases htd : t' = s'
   ·subst htd
    left
    rw [List.getElem?_set] at hv
    simp only [if_true] at hv
    split at hv <;> cases hv
    rfl
   ·right
    intro r e
    simp at e
    exact htd e.1)
  have := hE2.setA s' (v := .box (splice off cs (opt env x).cells)) (by rw [hcs]; simp only [VRel]; exact ⟨d', s', rfl, rfl, h1⟩)
  rwa [List.set_set] at this
 ·have hSm := hgd.heap hS
  exact hSm.mono h2 rfl (fun r e => by simp at e) (wr_fresh hSm.fresh)
 ·refine hgd.ext.trans (h2.weaken (fun l hl => ?_))
  subst hl
  exact ⟨d' + 2, [s', 0], rfl, .inr (Nat.le_refl _)⟩
end Go.Ab
namespace Go.Ab
variable {P : Program} {C : Ctx} {n : Nat}
def mvt (a b off n d dst : Nat) (agg : Bool) : List Nat → List Nat
 | a' :: b' :: k :: r => if a' = a ∧ b' = b ∧ off + 1 ≤ k ∧ k < off + 1 + n then (if agg then (d + 2) :: dst :: (k - (off + 1)) :: r else (d + 2) :: dst :: r) else a' :: b' :: k :: r
 | l => l
theorem mvt_in {a b off n d dst : Nat} {agg : Bool} {j : Nat} (h : j < n) (r : List Nat) : mvt a b off n d dst agg (a :: b :: (off + j + 1) :: r) = if agg then (d + 2) :: dst :: j :: r else (d + 2) :: dst :: r := by
 simp only [mvt]
 rw [if_pos ⟨trivial, trivial, by omega, by omega⟩]
 rw [show off + j + 1 - (off + 1) = j by omega]
theorem mvt_out {a b off n d dst : Nat} {agg : Bool} {k : Nat} (h : ¬ (off + 1 ≤ k ∧ k < off + 1 + n)) (r : List Nat) : mvt a b off n d dst agg (a :: b :: k :: r) = a :: b :: k :: r := by
 simp only [mvt]
 rw [if_neg (by rintro ⟨_, _, h'⟩; exact h h')]
theorem mvt_other {a b off n d dst : Nat} {agg : Bool} {a' b' : Nat} (h : ¬ (a' = a ∧ b' = b)) (r : List Nat) : mvt a b off n d dst agg (a' :: b' :: r) = a' :: b' :: r := by
 cases r with
 | nil => rfl
 | cons k r =>
  simp only [mvt]
  rw [if_neg (by rintro ⟨h1, h2, _⟩; exact h ⟨h1, h2⟩)]
theorem mvt_one {a b off n d dst : Nat} {agg : Bool} {a' : Nat} (h : a' ≠ a) (r : List Nat) : mvt a b off n d dst agg (a' :: r) = a' :: r := by
 cases r with
 | nil => rfl
 | cons b' r => exact mvt_other (fun h' => h h'.1) r
theorem BoxRel.cellVals {q : List Nat} {b : Nat} : ∀ {cs : List AV} {j0 : Nat}, BoxRel C cs b q j0 → ∃ vs : List Value, vs.length = cs.length ∧
  ∀ (j : Nat) v c, cs[j]? = some v → vs[j]? = some c → C.w.cell? ⟨b, j0 + j, none⟩ = some c ∧ OKB C b ∧ C.L b (j0 + j) = q ++ [0] ∧ flat c ∧ isPl v = false ∧ VRel C v (some (q ++ [j0 + j + 1])) c
 | [], j0, _ => ⟨[], rfl, fun j v c h => by simp at h⟩
 | v :: cs, j0, h => by
  simp only [BoxRel] at h
  obtain ⟨⟨c, h1⟩, hr⟩ := h
  obtain ⟨vs, hl, hv⟩ := hr.cellVals
  refine ⟨c :: vs, by simp [hl], fun j v' c' hj hj' => ?_⟩
  cases j with
  | zero => simp at hj hj'; subst hj; subst hj'; simpa using h1
  | succ j =>
   have := hv j v' c' (by simpa using hj) (by simpa using hj')
   rwa [show j0 + 1 + j = j0 + (j + 1) by omega] at this
theorem take_box {a s : Nat} {b : Nat} {cs cs' : List AV} (hb : BoxRel C cs b [a, s] 0) {t : TypeId} {off : Nat} {v : AV} (h : takeCells P t off cs = some (v, cs')) (d dst : Nat) :
  ∃ (k : Nat) (agg : Bool) (c : Value), (loadVar t ⟨b, off, none⟩).run P C.w = .ok c C.w ∧ VRel (C.map (mvt a s off k d dst agg)) v (some [d + 2, dst]) c ∧
   BoxRel (C.map (mvt a s off k d dst agg)) cs' b [a, s] 0 ∧ isPl v = false := by
 unfold takeCells at h
 cases hv : valAt P t (cs.drop off) with
 | none => rw [hv] at h; cases h
 | some v0 =>
 rw [hv] at h
 simp only [Option.ite_none_right_eq_some, Option.some.injEq, Prod.mk.injEq] at h
 obtain ⟨_, rfl, rfl⟩ := h
 obtain ⟨vs, hlen, hvs⟩ := hb.cellVals
 have hfz : ∀ (k : Nat) (agg : Bool), mvt a s off k d dst agg froz = froz := fun _ _ => rfl
 -- the cells that stay
 have stay : ∀ (agg : Bool), (∀ j, j < v0.cells.length → ∃ u, cs[off + j]? = some u ∧ v0.cells[j]? = some u) → off + v0.cells.length ≤ cs.length →
   BoxRel (C.map (mvt a s off v0.cells.length d dst agg)) (cs.take off ++ v0.cells.map AV.strip0 ++ cs.drop (off + v0.cells.length)) b [a, s] 0 := by
  intro agg hin hle
  rw [BoxRel.iff]
  intro j v hj
  have hL : ∀ o, C.L b o = [a, s] ++ [0] → (C.map (mvt a s off v0.cells.length d dst agg)).L b o = [a, s] ++ [0] := by
   intro o ho
   show mvt _ _ _ _ _ _ _ (C.L b o) = _
   rw [ho]
   exact mvt_out (by omega) []
  have hjl := (List.getElem?_eq_some_iff.1 hj).1
  have hjlt : j < cs.length := by simp at hjl; omega
  obtain ⟨h1, h2, h3, h4, h5, h6⟩ := hvs j cs[j] vs[j] (List.getElem?_eq_getElem hjlt) (List.getElem?_eq_getElem (by omega))
  simp only [Nat.zero_add] at h1 h2 h3 h6 ⊢
  by_cases hr : off ≤ j ∧ j < off + v0.cells.length
  ·obtain ⟨u, hu1, hu2⟩ := hin (j - off) (by omega)
   rw [show off + (j - off) = j by omega] at hu1
   have huj : u = cs[j] := by rw [List.getElem?_eq_getElem hjlt] at hu1; exact (Option.some.inj hu1).symm
   subst huj
   have hv' : v = cs[j].strip0 := by
    rw [List.append_assoc, List.getElem?_append_right (by simp; omega), List.getElem?_append_left (by simp; omega)] at hj
    simp only [List.length_take, List.getElem?_map] at hj
    rw [show min off cs.length = off by omega, hu2] at hj
    simpa using hj.symm
   subst hv'
   have hm : VRel C cs[j].strip0 none vs[j] := (h6.strip0 none).1
   have hpl := (h6.strip0 none).2
   exact ⟨vs[j], h1, h2, hL j h3, h4, hpl, VRel.any _ _ _ (VRel.map (hfz _ _) _ none none _ (.inl ⟨rfl, rfl⟩) (isPl_lp hpl) (fun _ => rfl) hm)⟩
  ·have hv' : v = cs[j] := by
    by_cases h' : j < off
    ·rw [List.append_assoc, List.getElem?_append_left (by simp; omega), List.getElem?_take_of_lt h', List.getElem?_eq_getElem hjlt] at hj
     exact (Option.some.inj hj).symm
    ·rw [List.getElem?_append_right (by simp; omega)] at hj
     simp only [List.length_append, List.length_take, List.length_map, List.getElem?_drop] at hj
     rw [show off + v0.cells.length + (j - (min off cs.length + v0.cells.length)) = j by omega, List.getElem?_eq_getElem hjlt] at hj
     exact (Option.some.inj hj).symm
   subst hv'
   refine ⟨vs[j], h1, h2, hL j h3, h4, h5, ?_⟩
   refine VRel.map (hfz _ _) _ _ _ _ (.inr ⟨_, _, rfl, rfl, fun r => ?_⟩) (isPl_lp h5) (fun hb => absurd hb (by simp [isPl_bx h5])) h6
   exact mvt_out (by omega) r
 cases hu : P.underlying t with
 | none => unfold valAt at hv; rw [hu] at hv; cases hv
 | some dd =>
  rw [valAt_eq hu] at hv
  by_cases ha : aggD dd = true
  ·rw [if_pos ha] at hv
   split at hv
   ·rename_i hle
    cases hv
    simp only [List.length_drop] at hle
    have hcl : ((cs.drop off).take (P.cellsOf t)).length = P.cellsOf t := by simp; omega
    by_cases hz : P.cellsOf t = 0
    ·refine ⟨0, true, .agg #[], ?_, ?_, ?_, rfl⟩
     ·have hl0 := run_loadCells_list (P := P) C.w ⟨b, off, none⟩ [] (fun j v hj => by simp at hj)
      simp only [List.length_nil] at hl0
      simp [loadVar, run_isAgg C.w t hu, ha, run_sizeOf_u C.w hu, hz, hl0]
     ·simp only [VRel, hz, List.take_zero]
      exact ⟨[], rfl, by simp, by simp [ListRel]⟩
     ·have := BoxRel.map (g := mvt a s off 0 d dst true) rfl cs b [a, s] 0 (fun r => by
       cases r with
       | nil => rfl
       | cons k r => exact mvt_out (by omega) r) hb
      simpa [AV.cells, hz] using this
    ·have hle' : off + P.cellsOf t ≤ cs.length := by omega
     refine ⟨P.cellsOf t, true, .agg ((vs.drop off).take (P.cellsOf t)).toArray, ?_, ?_, ?_, rfl⟩
     ·have hvl : ((vs.drop off).take (P.cellsOf t)).length = P.cellsOf t := by simp; omega
      have hl := run_loadCells_list (P := P) C.w ⟨b, off, none⟩ ((vs.drop off).take (P.cellsOf t)) (fun j v hj => by
       rw [add_none]
       have hjl := (List.getElem?_eq_some_iff.1 hj).1
       rw [hvl] at hjl
       rw [List.getElem?_take_of_lt hjl, List.getElem?_drop] at hj
       have := (hvs (off + j) cs[off + j] v (List.getElem?_eq_getElem (by omega)) hj).1
       simpa using this)
      rw [hvl] at hl
      simp [loadVar, run_isAgg C.w t hu, ha, run_sizeOf_u C.w hu, hl]
     ·simp only [VRel]
      refine ⟨_, rfl, fun x hx => ?_, ListRel.mk (by simp; omega) (fun j v c hj hj' => ?_)⟩
      ·obtain ⟨j, hj⟩ := List.getElem?_of_mem (List.mem_of_mem_drop (List.mem_of_mem_take hx))
       have hjl := (List.getElem?_eq_some_iff.1 hj).1
       exact (hvs j cs[j] x (List.getElem?_eq_getElem (by omega)) hj).2.2.2.1
      ·have hjl := (List.getElem?_eq_some_iff.1 hj).1
       rw [hcl] at hjl
       rw [List.getElem?_take_of_lt hjl, List.getElem?_drop] at hj hj'
       obtain ⟨_, _, _, _, h5, h6⟩ := hvs (off + j) v c hj hj'
       simp only [Nat.zero_add] at h6
       refine ⟨h5, VRel.map (hfz _ _) _ _ _ _ (.inr ⟨_, _, rfl, rfl, fun r => ?_⟩) (isPl_lp h5) (fun hb => absurd hb (by simp [isPl_bx h5])) h6⟩
       have := mvt_in (a := a) (b := s) (off := off) (d := d) (dst := dst) (agg := true) hjl r
       simpa using this
     ·have := stay true (fun j hj => ?_) (by simp only [AV.cells, hcl]; exact hle')
      ·simpa only [AV.cells, hcl] using this
      ·simp only [AV.cells, hcl] at hj ⊢
       refine ⟨cs[off + j], List.getElem?_eq_getElem (by omega), ?_⟩
       rw [List.getElem?_take_of_lt hj, List.getElem?_drop, List.getElem?_eq_getElem]
   ·cases hv
  ·rw [if_neg ha] at hv
   have ha' : aggD dd = false := by simpa using ha
   rw [List.head?_drop] at hv
   have hlt := (List.getElem?_eq_some_iff.1 hv).1
   obtain ⟨h1, h2, h3, h4, h5, h6⟩ := hvs off v0 vs[off] hv (List.getElem?_eq_getElem (by omega))
   simp only [Nat.zero_add] at h1 h2 h3 h6
   have hcl : v0.cells = [v0] := by
    have := flat_not_agg h6 h4
    cases v0 <;> first | rfl | exact absurd rfl (this _)
   refine ⟨1, false, vs[off], ?_, ?_, ?_, h5⟩
   ·simp [loadVar, run_isAgg C.w t hu, ha', h1]
   ·refine VRel.map (hfz _ _) _ _ _ _ (.inr ⟨_, _, rfl, rfl, fun r => ?_⟩) (isPl_lp h5) (fun hb => absurd hb (by simp [isPl_bx h5])) h6
    have := mvt_in (a := a) (b := s) (off := off) (d := d) (dst := dst) (agg := false) (Nat.zero_lt_one) r
    simpa using this
   ·have := stay false (fun j hj => ?_) (by rw [hcl]; simp; omega)
    ·rw [hcl] at this ⊢; exact this
    ·rw [hcl] at hj ⊢
     simp at hj; subst hj
     exact ⟨v0, by simpa using hv, rfl⟩
theorem takeHeap {d : Nat} {env : List AV} {tmps : Array Value} {S : Sto} (hE : EnvRel C d env tmps) (hS : HeapRel C S) {t : TypeId} {id off : Nat} {cs cs' : List AV} {ca : Value} {s dst : Nat} {v : AV}
  (ha : VRel C (.ptr id off) (some [d + 2, s]) ca) (hg : S.get id = some (.cells cs)) (hw : takeCells P t off cs = some (v, cs')) :
  ∃ C' c, (Instr.loadAt t ca).run P C.w = .ok c C'.w ∧ Out C C' d (env.set dst v) (tmps.setIfInBounds dst c) (S.put id (.cells cs')) := by
 simp only [VRel] at ha
 obtain ⟨rfl, _⟩ := ha
 obtain ⟨k, agg, c, hrun, hv, hb, _⟩ := take_box (P := P) (hS.get hg).2 hw d dst
 have hdeep : ∀ l, ¬ (∃ r, l = 1 :: id :: r) → mvt 1 id off k d dst agg l = l := by
  intro l hl
  match l with
  | [] => rfl
  | [_] => rfl
  | a :: b :: r => exact mvt_other (fun h => hl ⟨r, by rw [h.1, h.2]⟩) r
 have hx : Ext (fun l => ∃ r, l = 1 :: id :: r) C (C.map (mvt 1 id off k d dst agg)) := Ext.map C rfl hdeep
 refine ⟨C.map (mvt 1 id off k d dst agg), c, by simp [Instr.loadAt, Instr.sureAddr, hrun, Ctx.map], ?_, ?_, ?_⟩
 ·refine EnvRel.set ?_ dst hv
  exact hE.mono hx (fun t' r h => by obtain ⟨r', h⟩ := h; simp at h)
 ·exact hS.put hg hx rfl (fun i r hne h => by obtain ⟨r', h⟩ := h; simp at h; exact hne h.1) (fun b x h => by
   show mvt _ _ _ _ _ _ _ (C.L b x) = _
   rw [hS.fresh b x h]; rfl) hb
 ·exact hx.weaken (fun l hl => by obtain ⟨r, rfl⟩ := hl; exact ⟨1, id :: r, rfl, .inl rfl⟩)
theorem takeOwn {d : Nat} {env : List AV} {tmps : Array Value} {S : Sto} (hE : EnvRel C d env tmps) (hS : HeapRel C S) {t : TypeId} {s' off : Nat} {cs cs' : List AV} {ca : Value} {s dst : Nat} {v : AV}
  (ha : VRel C (.lptr s' off) (some [d + 2, s]) ca) (hg : env.getD s' .undef = .box cs) (hw : takeCells P t off cs = some (v, cs')) (hne : s' ≠ dst) :
  ∃ C' c, (Instr.loadAt t ca).run P C.w = .ok c C'.w ∧ Out C C' d ((env.set s' (.box cs')).set dst v) (tmps.setIfInBounds dst c) S := by
 obtain ⟨hb0, hs'⟩ := hE.box hg
 simp only [VRel] at ha
 obtain ⟨d', r', hp, rfl⟩ := ha
 obtain ⟨hd1, _⟩ := List.cons.inj (Option.some.inj hp)
 have hd : d' = d := by omega
 subst hd
 obtain ⟨k, agg, c, hrun, hv, hb, _⟩ := take_box (P := P) hb0 hw d' dst
 have hdeep : ∀ l, ¬ (∃ r, l = (d' + 2) :: s' :: r) → mvt (d' + 2) s' off k d' dst agg l = l := by
  intro l hl
  match l with
  | [] => rfl
  | [_] => rfl
  | a :: b :: r => exact mvt_other (fun h => hl ⟨r, by rw [h.1, h.2]⟩) r
 have hx : Ext (fun l => ∃ r, l = (d' + 2) :: s' :: r) C (C.map (mvt (d' + 2) s' off k d' dst agg)) := Ext.map C rfl hdeep
 have hcs : tmps.getD s' Go.undef = .pointer (some ⟨C.β d' s', 0, none⟩) := by
  have := hE.getD s'
  rw [hg] at this
  simp only [VRel] at this
  obtain ⟨d'', t'', hp, hc, _⟩ := this
  obtain ⟨e1, e2⟩ := List.cons.inj (Option.some.inj hp)
  obtain ⟨e2, _⟩ := List.cons.inj e2
  have : d'' = d' := by omega
  subst this; subst e2
  exact hc
 refine ⟨C.map (mvt (d' + 2) s' off k d' dst agg), c, by simp [Instr.loadAt, Instr.sureAddr, hrun, Ctx.map], ?_, ?_, ?_⟩
 ·refine EnvRel.set ?_ dst hv
  have hE1 : EnvRel C d' (env.set s' .unk) tmps := hE.setA s' (by simp [VRel])
  have hE2 := hE1.mono2 hx rfl (fun t' v hv => by
   by_cases htd : t' = s'
   ·subst htd
    left
    rw [List.getElem?_set] at hv
    simp only [if_true] at hv
    split at hv <;> cases hv
    rfl
   ·right
    rintro r ⟨r', e⟩
    simp at e
    exact htd e.1)
  have := hE2.setA s' (v := .box cs') (by rw [hcs]; simp only [VRel]; exact ⟨d', s', rfl, rfl, hb⟩)
  rwa [List.set_set] at this
 ·exact hS.mono hx rfl (fun r h => by obtain ⟨r', h⟩ := h; simp at h) (fun b x h => by
   show mvt _ _ _ _ _ _ _ (C.L b x) = _
   rw [hS.fresh b x h]; rfl)
 ·exact hx.weaken (fun l hl => by obtain ⟨r, rfl⟩ := hl; exact ⟨d' + 2, s' :: r, rfl, .inr (Nat.le_refl _)⟩)
end Go.Ab
namespace Go.Ab
variable {P : Program} {C : Ctx} {n : Nat}
theorem ArrRow.iff {q : List Nat} {b : Nat} : ∀ {vs : List AV} {o : Nat}, ArrRow C q vs b o ↔ ∀ (j : Nat) v, vs[j]? = some v →
  ∃ c, C.w.cell? ⟨b, o + j, none⟩ = some c ∧ OKB C b ∧ C.L b (o + j) = q ∧ flat c ∧ VRel C v none c
 | [], o => by simp [ArrRow]
 | u :: vs, o => by
  simp only [ArrRow]
  rw [ArrRow.iff (vs := vs) (o := o + 1)]
  constructor
  ·rintro ⟨h1, h2⟩ j v hv
   cases j with
   | zero => simp at hv; subst hv; simpa using h1
   | succ j =>
    have := h2 j v (by simpa using hv)
    rwa [show o + 1 + j = o + (j + 1) by omega] at this
  ·intro h
   refine ⟨by simpa using h 0 u (by simp), fun j v hv => ?_⟩
   have := h (j + 1) v (by simpa using hv)
   rwa [show o + (j + 1) = o + 1 + j by omega] at this
theorem ArrRow.append {q : List Nat} {b : Nat} : ∀ {as bs : List AV} {o : Nat}, ArrRow C q (as ++ bs) b o ↔ ArrRow C q as b o ∧ ArrRow C q bs b (o + as.length)
 | [], bs, o => by simp [ArrRow]
 | a :: as, bs, o => by
  simp only [List.cons_append, ArrRow, List.length_cons]
  rw [ArrRow.append (as := as) (bs := bs) (o := o + 1), show o + 1 + as.length = o + (as.length + 1) by omega, and_assoc]
theorem ArrRel.flat {q : List Nat} {b es : Nat} : ∀ {rows : List (List AV)} {o : Nat}, ArrRel C q rows b o es ↔ (∀ r ∈ rows, r.length = es) ∧ ArrRow C q rows.flatten b o
 | [], o => by simp [ArrRel, ArrRow]
 | r :: rows, o => by
  simp only [ArrRel, List.flatten_cons]
  rw [ArrRel.flat (rows := rows) (o := o + es), ArrRow.append]
  constructor
  ·rintro ⟨h1, h2, h3, h4⟩
   refine ⟨fun x hx => ?_, h2, by rw [h1]; exact h4⟩
   rcases List.mem_cons.1 hx with rfl | hx
   ·exact h1
   ·exact h3 x hx
  ·rintro ⟨h1, h2, h3⟩
   have hr := h1 r (by simp)
   exact ⟨hr, h2, fun x hx => h1 x (by simp [hx]), by rw [← hr]; exact h3⟩
theorem arr_write {q : List Nat} (hq : q ≠ [] ∧ q ≠ froz) {b o off : Nat} {vs news : List AV} {cc : List Value} (hb : ArrRow C q vs b o) (hr : ListRel C news none 0 cc) (hf : ∀ y ∈ cc, Ab.flat y) (hlen : off + news.length ≤ vs.length) :
  ArrRow (C.wr b (o + off) cc) q (splice off vs news) b o ∧ Ext (fun l => l = q) C (C.wr b (o + off) cc) ∧ (∀ j, j < cc.length → (C.w.cell? ⟨b, o + off + j, none⟩).isSome = true) ∧ ∀ j, j < cc.length → C.w.frozen? ⟨b, o + off + j, none⟩ = false := by
 have hl := hr.length
 rw [ArrRow.iff] at hb
 have hat : ∀ j, j < vs.length → ∃ c, C.w.cell? ⟨b, o + j, none⟩ = some c ∧ OKB C b ∧ C.L b (o + j) = q := by
  intro j hj
  obtain ⟨c, h1, h2, h3, _⟩ := hb j _ (List.getElem?_eq_getElem hj)
  exact ⟨c, h1, h2, h3⟩
 have hc : ∀ j, j < cc.length → (C.w.cell? ⟨b, o + off + j, none⟩).isSome = true := by
  intro j hj
  obtain ⟨c, h1, _⟩ := hat (off + j) (by omega)
  rw [show o + off + j = o + (off + j) by omega, h1]; rfl
 have hfr : ∀ j, j < cc.length → C.w.frozen? ⟨b, o + off + j, none⟩ = false := by
  intro j hj
  obtain ⟨c, h1, h2, _⟩ := hat (off + j) (by omega)
  rw [show o + off + j = o + (off + j) by omega]; exact h2.nf (by rw [h1]; rfl)
 have hx : Ext (fun l => l = q) C (C.wr b (o + off) cc) := Ext.wr (fun j h1 h2 => by
  obtain ⟨c, _, _, h3⟩ := hat (j - o) (by omega)
  rw [show o + (j - o) = j by omega] at h3
  exact ⟨h3, by rw [h3]; exact hq.2⟩)
 refine ⟨?_, hx, hc, hfr⟩
 rw [ArrRow.iff]
 intro j v hv
 by_cases h2 : off ≤ j ∧ j < off + news.length
 ·have hv' : news[j - off]? = some v := by
   unfold splice at hv
   rw [List.append_assoc, List.getElem?_append_right (by simp; omega)] at hv
   have e : (vs.take off).length = off := by simp; omega
   rw [e, List.getElem?_append_left (by omega)] at hv
   exact hv
  obtain ⟨c, a1, a2, a3⟩ := hr.getElem? (j - off) v hv'
  have hjl := (List.getElem?_eq_some_iff.1 a1).1
  obtain ⟨_, _, b2, b3⟩ := hat j (by omega)
  refine ⟨c, ?_, b2.mono hx, b3, hf c (List.mem_of_getElem? a1), VRel.mono hx v none c (Off.none _) (isPl_lp a2) a3⟩
  have := World.cell?_setCells_in b cc (o + off) C.w hc (j - off) hjl
  rw [show o + off + (j - off) = o + j by omega] at this
  rw [List.getElem?_eq_getElem hjl] at a1
  cases a1
  exact this
 ·have hv' : vs[j]? = some v := by
   unfold splice at hv
   by_cases h1 : j < off
   ·rw [List.append_assoc, List.getElem?_append_left (by simp; omega), List.getElem?_take] at hv
    simpa [h1] using hv
   ·have e : (vs.take off ++ news).length = off + news.length := by simp; omega
    rw [List.getElem?_append_right (by omega), e, List.getElem?_drop] at hv
    rwa [show off + news.length + (j - (off + news.length)) = j by omega] at hv
  obtain ⟨c, a1, a2, a3, a4, a5⟩ := hb j v hv'
  refine ⟨c, ?_, a2.mono hx, a3, a4, VRel.mono hx v none c (Off.none _) (isPl_lp a5.none_lp) a5⟩
  exact (World.cell?_setCells_out b cc (o + off) C.w _ (fun _ _ => by show o + j < o + off ∨ o + off + cc.length ≤ o + j; omega)).trans a1
theorem splice_row {es : Nat} {rows : List (List AV)} {r off : Nat} {row vs : List AV} (hl : ∀ x ∈ rows, x.length = es) (hr : rows[r]? = some row) (hle : off + vs.length ≤ row.length) :
  (rows.set r (splice off row vs)).flatten = splice (r * es + off) rows.flatten vs := by
 have hrl : row.length = es := hl row (List.mem_of_getElem? hr)
 have hlt := (List.getElem?_eq_some_iff.1 hr).1
 have e := set_splice hl hlt (r := splice off row vs) (by rw [length_splice hle, hrl])
 rw [← e]
 -- the row itself in the flattened list
 have hsplit : rows = rows.take r ++ row :: rows.drop (r + 1) := by
  have h2 := (List.getElem?_eq_some_iff.1 hr).2
  rw [← h2]
  simp
 have hf : rows.flatten = (rows.take r).flatten ++ (row ++ (rows.drop (r + 1)).flatten) := by
  conv => lhs; rw [hsplit]
  simp
 have hA : (rows.take r).flatten.length = r * es := by
  rw [flatten_length (es := es) (fun x hx => hl x (List.mem_of_mem_take hx)), List.length_take, Nat.min_eq_left (by omega)]
 rw [hf]
 generalize hX : (rows.take r).flatten = X at *
 generalize (rows.drop (r + 1)).flatten = Y at *
 unfold splice
 have e1 : (row.take off ++ vs ++ row.drop (off + vs.length)).length = es := by simp; omega
 rw [e1, ← hA, List.take_left, List.take_length_add_append, Nat.add_assoc, List.drop_length_add_append, List.drop_length_add_append,
  List.take_append_of_le_length (by omega), ← hrl, List.drop_left, List.drop_append_of_le_length hle]
 simp
theorem EnvRel.mono4 {X : List Nat → Prop} {C' : Ctx} {d : Nat} {env : List AV} {tmps : Array Value} (h : Ext X C C') (hβ : C'.β = C.β) (hX : ∀ (t : Nat) v, env[t]? = some v → v.strip = v ∨ ∀ r, ¬ X ((d + 2) :: t :: r)) (hE : EnvRel C d env tmps) : EnvRel C' d env tmps := by
 refine ⟨hE.1, fun t v hv => ?_⟩
 obtain ⟨c, hc, hr⟩ := hE.2 t v hv
 refine ⟨c, hc, ?_⟩
 rcases hX t v hv with hs | hX
 ·have := hr.strip none
  rw [hs] at this
  exact VRel.any _ _ _ (VRel.mono h v none c (Off.none X) (isPl_lp this.2) this.1)
 by_cases hl : isLp v = true
 ·cases v <;> simp [isLp] at hl
  simp only [VRel] at hr ⊢
  obtain ⟨d', r, hp, rfl⟩ := hr
  exact ⟨d', r, hp, by rw [hβ]⟩
 ·exact VRel.mono h v _ c (fun q hq => by cases hq; exact ⟨by simp, by simp [froz], fun r => hX r⟩) (by simpa using hl) hr
theorem Spare.wr {b o lo hi : Nat} {q : List Nat} {b' : Nat} {vs : List Value} {X : List Nat → Prop} (h : Spare C b lo hi q) (hx : Ext X C (C.wr b' o vs)) : Spare (C.wr b' o vs) b lo hi q := by
 refine ⟨fun hlt => ?_, fun x h1 h2 => h.2 x h1 h2⟩
 obtain ⟨cs, e, fr, hb, hc, hf⟩ := h.1 hlt
 obtain ⟨cs', fr', h1, h2, h3⟩ := hx.shape b cs e fr hb
 exact ⟨cs', e, fr', h1, by omega, by rw [h2]; exact h3 hf⟩
theorem storeArr {d : Nat} {env : List AV} {tmps : Array Value} {ds : List Deferred} {S : Sto} (hE : EnvRel C d env tmps) (hS : HeapRel C S) {t : TypeId} {id r off es : Nat} {rows : List (List AV)} {row row' : List AV} {x : Operand} {ca : Value} {s : Nat}
  (ha : VRel C (.aptr id r off) (some [d + 2, s]) ca) (hg : S.get id = some (.arr es rows)) (hrow : rows[r]? = some row) (hw : writeCells P t off row (opt env x).strip1 = some row') :
  ∃ C', (Instr.storeAt t ca (Act.eval { tmps, defers := ds } x)).run P C.w = .ok () C'.w ∧ Out C C' d (stripAt env (tmpsOf [x])) tmps (S.put id (.arr es (rows.set r row'))) := by
 obtain ⟨hok, hlen, hz, hle, rfl⟩ := writeCells_eq hw
 have hxv : VRel C (opt env x).strip1 none (Act.eval { tmps, defers := ds } x) := by
  cases x with
  | tmp t => exact ((opt_rel hE ds t).1.strip1 none).1
  | const v => exact ((opd_rel hE ds (.const v) none).1.strip1 none).1
  | global g => exact ((opd_rel hE ds (.global g) none).1.strip1 none).1
  | func f => exact ((opd_rel hE ds (.func f) none).1.strip1 none).1
 obtain ⟨hr, hf⟩ := cells_plain hxv hok
 generalize (opt env x).strip1 = v at *
 generalize hcx : Act.eval { tmps, defers := ds } x = cx at *
 simp only [VRel] at ha
 obtain ⟨rfl, _⟩ := ha
 obtain ⟨hid, h1, h2, h3, h4, h5⟩ := hS.get hg
 obtain ⟨hl, hfl⟩ := ArrRel.flat.1 h4
 have hq : [1, id, 0] ≠ [] ∧ [1, id, 0] ≠ froz := ⟨by simp, by simp [froz]⟩
 have hsp := splice_row hl hrow hle
 have hrl : row.length = es := hl row (List.mem_of_getElem? hrow)
 have hfit : r * es + off + v.cells.length ≤ rows.flatten.length := by
  rw [flatten_length hl]
  have hlt := (List.getElem?_eq_some_iff.1 hrow).1
  have : (r + 1) * es ≤ rows.length * es := Nat.mul_le_mul_right _ hlt
  rw [Nat.add_mul] at this; omega
 obtain ⟨k1, k2, k3, k4⟩ := arr_write hq hfl hr hf hfit
 have hsz : cx.cells.size = P.cellsOf t := by rw [← hlen, ← hr.length]; simp
 have eo : C.ψ id + (r * es + off) = C.ψ id + r * C.σ id + off := by rw [h2]; omega
 rw [eo] at k1 k2 k3 k4
 refine ⟨C.wr (C.φ id) (C.ψ id + r * C.σ id + off) cx.cells.toList, ?_, ?_, ?_, ?_⟩
 ·simp only [Instr.storeAt, Instr.sureAddr, Sem.run_bind, Sem.run_pure, Result.andThen_ok]
  exact storeVar_run C.w hsz hz (fun j hj => k3 j (by simpa using hj)) (fun j hj => k4 j (by simpa using hj)) hf
 ·exact (hE.stripAt _).mono k2 (fun t' r' e => by simp at e)
 ·refine hS.put hg k2 rfl (fun i r' hne e => by simp at e; exact hne e.1) (wr_fresh hS.fresh) ⟨h1, h2, by rw [List.length_set]; exact h3, ?_, ?_⟩
  ·refine ArrRel.flat.2 ⟨fun y hy => ?_, by rw [hsp]; exact k1⟩
   rcases List.mem_or_eq_of_mem_set hy with hy | rfl
   ·exact hl y hy
   ·rw [length_splice hle]; exact hrl
  ·rw [List.length_set]
   exact Spare.wr h5 k2
 ·exact k2.weaken (fun l hl => by subst hl; exact ⟨1, [id, 0], rfl, .inl rfl⟩)
theorem RawNew.arr {S : Sto} (hS : HeapRel C S) {es : Nat} {rows : List (List AV)} {x : Sem Value} (h : RawNew P C es rows x) :
  ∃ (c : Value) (C1 : Ctx), x.run P C.w = .ok c C1.w ∧ Ext (fun _ => False) C C1 ∧ HeapRel C1 (S.new (.arr es rows)) ∧ VRel C1 (.rsl S.next es 0 rows.length) none c := by
 obtain ⟨w1, cs, rest, e, fr, cap, hw, hrun, hle, hes, hrow, hr, hf, hsz, hfr⟩ := h.out
 have hS1 := hS.on hw
 have hsz1 : (C.on w1).w.heap.size = C.w.heap.size := congrArg Array.size hw.heap
 let C2 := (C.on w1).give (.cells (cs.toArray ++ rest) e fr) (fun _ => [1, S.next, 0]) 0 es cap
 have hx : Ext (fun _ => False) (C.on w1) C2 := Ext.give hS1.fresh
 have hn : C.n = S.next := hS.n
 have hφ : C2.φ S.next = C.w.heap.size := by show (if S.next = (C.on w1).n then _ else _) = _; rw [if_pos (show S.next = (C.on w1).n from hn.symm)]; exact hsz1
 have hψ : C2.ψ S.next = 0 := by show (if S.next = (C.on w1).n then _ else _) = _; rw [if_pos (show S.next = (C.on w1).n from hn.symm)]
 have hσ : C2.σ S.next = es := by show (if S.next = (C.on w1).n then _ else _) = _; rw [if_pos (show S.next = (C.on w1).n from hn.symm)]
 have hκ : C2.κ S.next = cap := by show (if S.next = (C.on w1).n then _ else _) = _; rw [if_pos (show S.next = (C.on w1).n from hn.symm)]
 have hnew : C2.w.heap[C.w.heap.size]? = some (.cells (cs.toArray ++ rest) e fr) := by rw [← hsz1]; exact alloc_new _ _
 have hL : ∀ j, C2.L C.w.heap.size j = [1, S.next, 0] := by
  intro j
  show (if C.w.heap.size = (C.on w1).w.heap.size then _ else _) = _
  rw [if_pos hsz1.symm]
 have hlen : cs.length = rows.length * es := by rw [hr.length, flatten_length hrow]
 have hrr : ListRel C2 rows.flatten none 0 cs := ListRel.mono ((Ext.on (fun _ => False) hw).trans hx) _ none 0 _ (Off.none _) hr
 have hcs : (cs.toArray ++ rest).size = cap * es := by simp; omega
 have hokb : OKB C2 C.w.heap.size := ⟨_, _, _, hnew, by rw [hcs]; exact hfr⟩
 have hle2 : rows.length * es ≤ cap * es := Nat.mul_le_mul_right _ hle
 have hobj : ObjRel C2 S.next (.arr es rows) := by
  refine ⟨hes, hσ, by rw [hκ]; exact hle, ?_, ?_⟩
  ·rw [hφ, hψ]
   refine ArrRel.flat.2 ⟨hrow, ArrRow.iff.2 fun j v hj => ?_⟩
   obtain ⟨c, a1, a2, a3⟩ := hrr.getElem? j v hj
   have hjl := (List.getElem?_eq_some_iff.1 a1).1
   refine ⟨c, ?_, hokb, hL _, hf c (List.mem_of_getElem? a1), a3⟩
   simp only [World.cell?, hnew]
   rw [if_neg (by simp), Array.getElem?_append_left (by simp; omega)]
   simpa using a1
  ·rw [hφ, hψ, hκ]
   refine ⟨fun _ => ⟨_, e, fr, hnew, by simp; omega, ?_⟩, fun o _ _ => hL o⟩
   have : (cs.toArray ++ rest).size = cap * es := by simp; omega
   rw [this]; exact hfr
 refine ⟨_, C2, hrun, (Ext.on _ hw).trans hx, HeapRel.give hS1 (by show ObjRel C2 C.n _; rw [hn]; exact hobj), ?_⟩
 simp only [VRel]
 refine ⟨C.w.heap.size, 0, cap, rfl, hle, by rw [hκ]; omega, ?_, hσ, .inr ⟨hφ.symm, by rw [hψ]; omega⟩⟩
 show S.next < C.n + 1
 omega
end Go.Ab
namespace Go.Ab
variable {P : Program} {C : Ctx} {n : Nat}
def FinS (P : Program) (C : Ctx) (d : Nat) (env : List AV) (tmps : Array Value) (S' : Sto) (dst : Tmp) (v : AV) (x : Sem Value) : Prop :=
 ∃ (c : Value) (C' : Ctx), x.run P C.w = .ok c C'.w ∧ EnvRel C' d (env.set dst v) (tmps.setIfInBounds dst c) ∧ HeapRel C' S' ∧ Ext (Deep d) C C'
theorem mem_drop {id : Nat} : ∀ {l : List (Nat × Obj)}, (l.map (·.1)).Nodup → ∀ {i : Nat} {x : Obj}, (i, x) ∈ Sto.dropIn id l → i ≠ id ∧ (i, x) ∈ l
 | [], _, i, x, h => by simp [Sto.dropIn] at h
 | (j, y) :: l, hn, i, x, h => by
  simp only [List.map_cons, List.nodup_cons] at hn
  unfold Sto.dropIn at h
  split at h
  ·rename_i e
   refine ⟨fun e' => ?_, List.mem_cons_of_mem _ h⟩
   exact hn.1 (by rw [e, ← e']; exact List.mem_map.2 ⟨(i, x), h, rfl⟩)
  ·rename_i hne
   rcases List.mem_cons.1 h with h | h
   ·cases h; exact ⟨hne, by simp⟩
   ·obtain ⟨a, b⟩ := mem_drop hn.2 h
    exact ⟨a, List.mem_cons_of_mem _ b⟩
theorem keys_drop {id : Nat} : ∀ {l : List (Nat × Obj)}, (l.map (·.1)).Nodup → ((Sto.dropIn id l).map (·.1)).Nodup
 | [], _ => by simp [Sto.dropIn]
 | (j, y) :: l, hn => by
  have hn' := hn
  simp only [List.map_cons, List.nodup_cons] at hn
  unfold Sto.dropIn
  split
  ·exact hn.2
  ·simp only [List.map_cons, List.nodup_cons]
   refine ⟨fun h => ?_, keys_drop hn.2⟩
   obtain ⟨p, hp, he⟩ := List.mem_map.1 h
   exact hn.1 (List.mem_map.2 ⟨p, (mem_drop hn.2 (i := p.1) (x := p.2) hp).2, he⟩)
theorem HeapRel.drop {S : Sto} (hS : HeapRel C S) (id : Nat) : HeapRel C (S.drop id) :=
 ⟨hS.n, keys_drop hS.nodup, fun i o h => hS.obj i o (mem_drop hS.nodup h).2, hS.fresh, hS.base⟩
def Ctx.name (C : Ctx) (b base es cap : Nat) : Ctx :=
 { C with
  φ := fun i => if i = C.n then b else C.φ i
  ψ := fun i => if i = C.n then base else C.ψ i
  σ := fun i => if i = C.n then es else C.σ i
  κ := fun i => if i = C.n then cap else C.κ i
  n := C.n + 1 }
theorem Ext.name (X : List Nat → Prop) (b base es cap : Nat) : Ext X C (C.name b base es cap) :=
 ⟨Nat.le_succ _, fun id hid => by
  have : id ≠ C.n := by omega
  exact ⟨if_neg this, if_neg this, if_neg this, if_neg this⟩, fun b o h => ⟨h, Same.refl _ _ _⟩, fun b o _ _ => ⟨rfl, Same.refl _ _ _⟩, fun _ _ _ => rfl, fun _ cs _ fr h => ⟨cs, fr, h, rfl, id⟩, ⟨rfl, Nat.le_refl _, rfl, rfl, rfl, fun _ cs _ _ _ h => ⟨cs, h⟩⟩⟩
theorem arr_extend {d : Nat} {env : List AV} {tmps : Array Value} (hE : EnvRel C d env tmps) {S0 : Sto} (hS : HeapRel C S0) {q : List Nat} (hq : q ≠ [] ∧ q ≠ froz) (hqd : Deep d q)
  (hqS : ∀ i o, (i, o) ∈ S0.heap → ∀ r, 1 :: i :: r ≠ q) (hqE : ∀ (t : Nat) v, env[t]? = some v → v.strip = v ∨ ∀ r, (d + 2) :: t :: r ≠ q)
  {b o0 es cap : Nat} {rows0 more : List (List AV)} {cc : List Value} (hes : 1 ≤ es) (h1 : ArrRel C q rows0 b o0 es) (h2 : Spare C b (o0 + rows0.length * es) (o0 + cap * es) q)
  (hm : ∀ r ∈ more, r.length = es) (hr : ListRel C more.flatten none 0 cc) (hf : ∀ x ∈ cc, flat x) (hne : more ≠ []) (hroom : rows0.length + more.length ≤ cap) :
  (∀ j, j < cc.length → (C.w.cell? ⟨b, o0 + rows0.length * es + j, none⟩).isSome = true) ∧ (∀ j, j < cc.length → C.w.frozen? ⟨b, o0 + rows0.length * es + j, none⟩ = false) ∧
  ∃ C' : Ctx, C'.w = C.w.setCells b (o0 + rows0.length * es) cc ∧ EnvRel C' d env tmps ∧ HeapRel C' (S0.new (.arr es (rows0 ++ more))) ∧ Ext (Deep d) C C' ∧
   VRel C' (.rsl S0.next es 0 (rows0.length + more.length)) none (.slice (some ⟨b, o0, none⟩) (rows0.length + more.length) cap) := by
 have hcl : cc.length = more.length * es := by rw [hr.length, flatten_length hm]
 have hmp : 1 ≤ more.length := by cases more with | nil => exact absurd rfl hne | cons a l => simp
 have hpos : 0 < cc.length := by rw [hcl]; exact Nat.mul_pos hmp hes
 have hfit : rows0.length * es + cc.length ≤ cap * es := by
  rw [hcl, ← Nat.add_mul]; exact Nat.mul_le_mul_right _ hroom
 obtain ⟨arr, el, fr, hblk, hsize, hfrok⟩ := h2.1 (by omega)
 have hcell : ∀ j, j < cc.length → (C.w.cell? ⟨b, o0 + rows0.length * es + j, none⟩).isSome = true := by
  intro j hj
  simp only [World.cell?, hblk]
  simp; omega
 have hnfr : ∀ o, o < o0 + cap * es → C.w.frozen? ⟨b, o, none⟩ = false := by
  intro o ho
  obtain ⟨lo, hi'⟩ := fr
  simp only [World.frozen?, hblk]
  rcases hfrok with h1 | h1 <;> simp at h1 ⊢ <;> omega
 have hokb : OKB C b := ⟨arr, el, fr, hblk, hfrok⟩
 refine ⟨hcell, fun j hj => hnfr _ (by omega), ?_⟩
 let g : List Nat → List Nat := fun l => if l = q then [1, S0.next, 0] else l
 have gq : g q = [1, S0.next, 0] := if_pos rfl
 have gn : ∀ l, l ≠ q → g l = l := fun l h => if_neg h
 let Ca := C.wr b (o0 + rows0.length * es) cc
 let Cb := Ca.map g
 let C' := Cb.name b o0 es cap
 have x1 : Ext (fun l => l = q) C Ca := Ext.wr (fun j a1 a2 => by
  have := h2.2 j a1 (by omega)
  exact ⟨this, by rw [this]; exact hq.2⟩)
 have x2 : Ext (fun l => l = q) Ca Cb := Ext.map Ca (gn _ (Ne.symm hq.2)) gn
 have hx : Ext (fun l => l = q) C C' := (x1.trans x2).trans (Ext.name _ _ _ _ _)
 have hn : C.n = S0.next := hS.n
 have hφ : C'.φ S0.next = b := by show (if S0.next = Cb.n then _ else _) = _; rw [if_pos (show S0.next = Cb.n from hn.symm)]
 have hψ : C'.ψ S0.next = o0 := by show (if S0.next = Cb.n then _ else _) = _; rw [if_pos (show S0.next = Cb.n from hn.symm)]
 have hσ : C'.σ S0.next = es := by show (if S0.next = Cb.n then _ else _) = _; rw [if_pos (show S0.next = Cb.n from hn.symm)]
 have hκ : C'.κ S0.next = cap := by show (if S0.next = Cb.n then _ else _) = _; rw [if_pos (show S0.next = Cb.n from hn.symm)]
 have hL : ∀ o, C.L b o = q → C'.L b o = [1, S0.next, 0] := by
  intro o ho
  show g (C.L b o) = _
  rw [ho, gq]
 obtain ⟨hrow, hrr⟩ := ArrRel.flat.1 h1
 have hfl := flatten_length hrow
 have hobj : ObjRel C' S0.next (.arr es (rows0 ++ more)) := by
  refine ⟨hes, hσ, by rw [hκ]; simpa using hroom, ?_, ?_⟩
  ·rw [hφ, hψ]
   refine ArrRel.flat.2 ⟨fun r hr' => (List.mem_append.1 hr').elim (hrow r) (hm r), ?_⟩
   rw [List.flatten_append, ArrRow.append]
   refine ⟨?_, ?_⟩
   ·rw [ArrRow.iff] at hrr ⊢
    intro j v hj
    have hjl := (List.getElem?_eq_some_iff.1 hj).1
    obtain ⟨c, a1, a2, a3, a4, a5⟩ := hrr j v hj
    refine ⟨c, ?_, a2.mono hx, hL _ a3, a4, VRel.mono hx v none c (Off.none _) (isPl_lp a5.none_lp) a5⟩
    exact (World.cell?_setCells_out b cc _ C.w _ (fun _ _ => by show o0 + j < _ ∨ _; left; omega)).trans a1
   ·rw [ArrRow.iff]
    intro j v hj
    obtain ⟨c, a1, a2, a3⟩ := hr.getElem? j v hj
    have hjl := (List.getElem?_eq_some_iff.1 a1).1
    rw [hfl]
    refine ⟨c, ?_, hokb.mono hx, hL _ (h2.2 _ (by omega) (by omega)), hf c (List.mem_of_getElem? a1), VRel.mono hx v none c (Off.none _) (isPl_lp a2) a3⟩
    have := World.cell?_setCells_in b cc (o0 + rows0.length * es) C.w hcell j hjl
    rw [List.getElem?_eq_getElem hjl] at a1
    cases a1
    exact this
  ·rw [hφ, hψ, hκ]
   refine ⟨fun _ => ?_, fun o a1 a2 => hL o (h2.2 o ?_ a2)⟩
   ·obtain ⟨cs', fr', k1, k2, k3⟩ := hx.shape b arr el fr hblk
    exact ⟨cs', el, fr', k1, by omega, by rw [k2]; exact k3 hfrok⟩
   ·simp only [List.length_append, Nat.add_mul] at a1; omega
 refine ⟨C', rfl, hE.mono4 hx rfl hqE, ?_, hx.weaken (fun l hl => by subst hl; exact hqd), ?_⟩
 ·refine ⟨by show C.n + 1 = S0.next + 1; rw [hn], ?_, ?_, ?_, hS.base.mono hx⟩
  ·simp only [Sto.new, List.map_cons, List.nodup_cons]
   refine ⟨fun hm => ?_, hS.nodup⟩
   obtain ⟨p, hp, he⟩ := List.mem_map.1 hm
   have := (hS.obj p.1 p.2 hp).1
   omega
  ·intro id o' hm
   simp only [Sto.new, List.mem_cons] at hm
   rcases hm with hm | hm
   ·cases hm
    exact ⟨Nat.lt_succ_self _, hobj⟩
   ·have h1 := hS.obj id o' hm
    exact ⟨Nat.lt_succ_of_lt h1.1, h1.2.mono hx (by rw [hn]; exact h1.1) (fun r => hqS id o' hm r)⟩
  ·intro b' x hb'
   show g (C.L b' x) = []
   have hsz : C'.w.heap.size = C.w.heap.size := (setCells_heap cc C.w b _).1
   rw [hS.fresh b' x (by omega)]
   exact gn _ (Ne.symm hq.1)
 ·simp only [VRel]
  exact ⟨b, o0, cap, rfl, hroom, by rw [hκ]; omega, by show S0.next < C.n + 1; omega, hσ, .inr ⟨hφ.symm, by rw [hψ]; omega⟩⟩
theorem splice_rows {es k : Nat} {rows more : List (List AV)} (hl : ∀ x ∈ rows, x.length = es) (hm : ∀ x ∈ more, x.length = es) (hle : k + more.length ≤ rows.length) :
  (rows.take k ++ more ++ rows.drop (k + more.length)).flatten = splice (k * es) rows.flatten more.flatten := by
 have e : rows.flatten = (rows.take k).flatten ++ (((rows.drop k).take more.length).flatten ++ (rows.drop (k + more.length)).flatten) := by
  rw [← List.flatten_append, ← List.flatten_append]
  congr 1
  rw [← List.drop_drop, List.take_append_drop, List.take_append_drop]
 have l1 : (rows.take k).flatten.length = k * es := by
  rw [flatten_length (es := es) (fun x hx => hl x (List.mem_of_mem_take hx)), List.length_take, Nat.min_eq_left (by omega)]
 have l2 : ((rows.drop k).take more.length).flatten.length = more.flatten.length := by
  rw [flatten_length (es := es) (fun x hx => hl x (List.mem_of_mem_drop (List.mem_of_mem_take hx))), flatten_length hm, List.length_take, Nat.min_eq_left (by simp; omega)]
 unfold splice
 rw [e, ← l1, List.take_left, List.drop_length_add_append, ← l2, List.drop_left]
 simp
theorem appHeap_fin {d : Nat} {env : List AV} {tmps : Array Value} {cons : List Tmp} {t dst : Tmp} {st st' : St} (hE : EnvRel C d env tmps) (hS : HeapRel C st.S) (ht : t ∈ cons) {sType xType ty e : TypeId} {base : AV} {cb cx : Value} {more : List (List AV)} {v : AV}
  (hu : P.underlying sType = some (.slice e)) (hb : VRel C base (some [d + 2, t]) cb) (hm : More P C e xType cx more)
  (hz : ∃ i z0, P.info? e = some i ∧ i.zero = some z0 ∧ z0.cells.size = i.size)
  (h : appHeap P e base more st = some (.val v st')) : FinS P C d (stripAt env cons) tmps st'.S dst v (Builtin.append_ #[sType, xType] ty #[cb, cx]) ∧ st' = { st with S := st'.S } := by
 have hz' := hz
 have hm' := hm
 obtain ⟨i, z0, hi, hz0, hzs⟩ := hz
 have hsz : P.cellsOf e = i.size := by simp [Program.cellsOf, hi]
 obtain ⟨hml, new, hsrc, hnr, hnf⟩ := hm
 have hnl : new.length = more.length * P.cellsOf e := by rw [hnr.length, flatten_length hml]
 have hEs : EnvRel C d (stripAt env cons) tmps := hE.stripAt cons
 -- a new array
 have made : ∀ {S0 : Sto} {es : Nat} {rows : List (List AV)} {x : Sem Value}, HeapRel C S0 → RawNew P C es rows x → FinS P C d (stripAt env cons) tmps (S0.new (.arr es rows)) dst (.rsl S0.next es 0 rows.length) x := by
  intro S0 es rows x hS0 hraw
  obtain ⟨c, C1, hr, hx, hS1, hv⟩ := hraw.arr hS0
  exact ⟨c, C1, hr, (hEs.mono hx (fun _ _ h => h)).set dst (VRel.any _ _ _ hv), hS1, hx.weaken (fun _ h => h.elim)⟩
 unfold appHeap at h
 split at h
 ·have hnil : new = [] := by rw [← List.length_eq_zero_iff, hnl]; simp
  subst hnil
  split at h
  ·cases h
   simp only [VRel] at hb
   subst hb
   exact ⟨got_fin hE hS (c := .slice none 0 0) (append_nil_none C.w hu hi hsrc) (Got.plain (by simp only [VRel])), rfl⟩
  ·rename_i own es
   cases h
   have hb' := hb
   simp only [VRel] at hb'
   obtain ⟨b, o, cap, s, rfl, hl, hes, hr, _, _⟩ := hb'
   refine ⟨got_fin hE hS ?_ (Got.from ht hb rfl), rfl⟩
   exact append_some_none C.w hu hi hsrc (by simp)
  ·rename_i id es off len
   cases h
   have hb' := hb
   simp only [VRel] at hb'
   obtain ⟨b, o, cap, rfl, hl, hrest⟩ := hb'
   refine ⟨got_fin hE hS ?_ (Got.from ht hb rfl), rfl⟩
   have := append_room (P := P) (ty := ty) (b := b) (o := o) C.w hu hi hsrc (by simpa using hl) (by simp) (by simp) (by simp)
   simpa [World.setCells] using this
  ·cases h
 ·rename_i m ms
  split at h
  ·split at h
   ·cases h
   ·rename_i hbig
    cases h
    simp only [VRel] at hb
    subst hb
    have := grown_raw (P := P) (ty := ty) (base := none) (sLen := 0) (sCap := 0) (rows := []) (old := []) hu hm' hz' (by simpa using hbig) (by simp) rfl (by simp [ListRel]) (by simp)
     (fun w' _ => by simpa using run_firstCells_none w' _ 0 0 0) (by simp)
    exact ⟨made hS this, rfl⟩
  ·rename_i es
   split at h
   ·cases h
   ·rename_i hc
    have hes' : es = P.cellsOf e := Decidable.byContradiction fun hne => hc (.inl hne)
    have hbig : ¬ bigA P e (m :: ms).length := fun hb' => hc (.inr hb')
    cases h
    subst hes'
    simp only [VRel] at hb
    obtain ⟨b, o, cap, s, rfl, hl, hes, _, hsp, hs0⟩ := hb
    obtain ⟨q, hq, hspare, _⟩ := hsp trivial
    cases hq
    rcases hs0 with rfl | hc0
    rotate_left
    ·have hrun := grown_raw (P := P) (ty := ty) (base := some ⟨b, o, s⟩) (sLen := 0) (sCap := cap) (rows := []) (old := []) hu hm' hz' (by simpa using hbig) (by simp) rfl (by simp [ListRel]) (by simp)
      (fun w' _ => run_firstCells_some w' _ 0 _ _ cap [] (by simp) (by simp)) (by simp; omega)
     exact ⟨made hS hrun, rfl⟩
    by_cases hroom : (m :: ms).length ≤ cap
    ·obtain ⟨k1, k2, C', hw, kE, kS, kx, kv⟩ := arr_extend (rows0 := []) (more := m :: ms) hEs hS (q := [d + 2, t]) (by simp [froz]) ⟨d + 2, [t], rfl, .inr (Nat.le_refl _)⟩ (fun i o _ r e => by simp at e)
      (fun t' v' hv' => by
       by_cases e : t' = t
       ·subst e; exact .inl (stripAt_get cons env t' v' hv' (.inl ht))
       ·right; intro r e'; simp at e'; exact e e'.1)
      hes (by simp [ArrRel]) (by simpa using hspare) hml hnr hnf (by simp) (by simpa using hroom)
     have hrun := append_room (P := P) (ty := ty) (b := b) (o := o) (sLen := 0) (sCap := cap) C.w hu hi hsrc (by simpa using hroom) (by rw [← hsz]; simpa using k1) (by rw [← hsz]; simpa using k2) (fun x hx => flat_one (hnf x hx))
     refine ⟨⟨.slice (some ⟨b, o, none⟩) (0 + (m :: ms).length) cap, C', ?_, kE.set dst (VRel.any _ _ _ ?_), kS, kx⟩, rfl⟩
     ·rw [hw, List.length_nil, hrun, hsz]
     ·simpa using kv
    ·have hrun := grown_raw (P := P) (ty := ty) (base := some ⟨b, o, none⟩) (sLen := 0) (sCap := cap) (rows := []) (old := []) hu hm' hz' (by simpa using hbig) (by simp) rfl (by simp [ListRel]) (by simp)
      (fun w' _ => run_firstCells_some w' _ 0 _ _ cap [] (by simp) (by simp)) (by omega)
     exact ⟨made hS hrun, rfl⟩
  ·rename_i id es off len
   split at h
   ·rename_i es' rows hg
    obtain ⟨hid, hobj⟩ := hS.get hg
    have hobj' := hobj
    obtain ⟨o1, o2, o3, o4, o5⟩ := hobj
    split at h
    ·cases h
    ·rename_i hc
     have hes : es = P.cellsOf e := Decidable.byContradiction fun hne => hc (.inl hne)
     have hes' : es' = es := Decidable.byContradiction fun hne => hc (.inr (.inl hne))
     have hbig : ¬ bigA P e (len + (m :: ms).length) := fun hb' => hc (.inr (.inr hb'))
     subst hes'
     subst hes
     simp only [VRel] at hb
     obtain ⟨b, o, cap, rfl, hl, hk, hn, hs, ha⟩ := hb
     have hnpos : 0 < new.length := by rw [hnl]; exact Nat.mul_pos (by simp) (by omega)
     split at h
     ·rename_i hin
      cases h
      have hcap : cap ≠ 0 := by simp at hin; omega
      obtain ⟨rfl, rfl⟩ := ha.resolve_left hcap
      obtain ⟨hrl, hrf⟩ := ArrRel.flat.1 o4
      have hspl := splice_rows hrl hml hin
      have hfit : (off + len) * P.cellsOf e + (m :: ms).flatten.length ≤ rows.flatten.length := by
       rw [flatten_length hml, flatten_length hrl, ← Nat.add_mul]; exact Nat.mul_le_mul_right _ hin
      have hq : [1, id, 0] ≠ [] ∧ [1, id, 0] ≠ froz := ⟨by simp, by simp [froz]⟩
      obtain ⟨k1, k2, k3, k4⟩ := arr_write hq hrf hnr hnf hfit
      have eo : C.ψ id + (off + len) * P.cellsOf e = C.ψ id + off * C.σ id + len * i.size := by rw [o2, ← hsz, Nat.add_mul]; omega
      rw [eo] at k1 k2 k3 k4
      have hrun := append_room (P := P) (ty := ty) (b := C.φ id) (o := C.ψ id + off * C.σ id) (sLen := len) (sCap := cap) C.w hu hi hsrc (by omega) k3 k4 (fun x hx => flat_one (hnf x hx))
      have hlen' : (rows.take (off + len) ++ (m :: ms) ++ rows.drop (off + len + (m :: ms).length)).length = rows.length := by
       simp only [List.length_append, List.length_take, List.length_drop]; omega
      refine ⟨⟨_, C.wr (C.φ id) (C.ψ id + off * C.σ id + len * i.size) new, hrun, ?_, ?_, ?_⟩, rfl⟩
      ·refine EnvRel.set (hEs.mono k2 (fun t' r' e => by simp at e)) dst ?_
       simp only [VRel]
       exact ⟨_, _, cap, rfl, by omega, hk, hn, hs, .inr ⟨rfl, rfl⟩⟩
      ·refine hS.put hg k2 rfl (fun j r' hne e => by simp at e; exact hne e.1) (wr_fresh hS.fresh) ⟨o1, o2, by rw [hlen']; exact o3, ?_, ?_⟩
       ·refine ArrRel.flat.2 ⟨fun y hy => ?_, by rw [hspl]; exact k1⟩
        simp only [List.mem_append] at hy
        rcases hy with (hy | hy) | hy
        ·exact hrl y (List.mem_of_mem_take hy)
        ·exact hml y hy
        ·exact hrl y (List.mem_of_mem_drop hy)
       ·rw [hlen']; exact Spare.wr o5 k2
      ·exact k2.weaken (fun l hl => by subst hl; exact ⟨1, [id, 0], rfl, .inl rfl⟩)
     ·split at h
      ·rename_i hout hend
       cases h
       have hdl : (rows.drop off).length = len := by simp; omega
       have hSd := hS.drop id
       by_cases hroom : len + (m :: ms).length ≤ cap
       ·have hcap : cap ≠ 0 := by simp at hroom; omega
        obtain ⟨rfl, rfl⟩ := ha.resolve_left hcap
        have hd4 := o4.drop off
        obtain ⟨k1, k2, C', hw, kE, kS, kx, kv⟩ := arr_extend (b := C.φ id) (o0 := C.ψ id + off * C.σ id) (cap := cap) (rows0 := rows.drop off) (more := m :: ms) (d := d) hEs hSd (q := [1, id, 0]) (by simp [froz]) ⟨1, [id, 0], rfl, .inl rfl⟩
         (fun j o hj r e => by simp at e; exact (mem_drop hS.nodup hj).1 e.1)
         (fun t' v' hv' => .inr (fun r e' => by simp at e'))
         o1 (by rw [o2]; exact hd4) (by
          rw [hdl, o2, show C.ψ id + off * P.cellsOf e + len * P.cellsOf e = C.ψ id + rows.length * P.cellsOf e by rw [← hend, Nat.add_mul]; omega,
           show C.ψ id + off * P.cellsOf e + cap * P.cellsOf e = C.ψ id + C.κ id * P.cellsOf e by rw [← hk, Nat.add_mul]; omega]
          exact o5) hml hnr hnf (by simp) (by rw [hdl]; exact hroom)
        rw [hdl] at k1 k2 hw kv
        have hrun := append_room (P := P) (ty := ty) (b := C.φ id) (o := C.ψ id + off * C.σ id) (sLen := len) (sCap := cap) C.w hu hi hsrc hroom (by rw [← hsz]; exact k1) (by rw [← hsz]; exact k2) (fun x hx => flat_one (hnf x hx))
        refine ⟨⟨_, C', ?_, kE.set dst (VRel.any _ _ _ kv), kS, kx⟩, rfl⟩
        rw [hw, hrun, hsz]
       ·have hrd : ∀ r ∈ rows.drop off, r.length = P.cellsOf e := fun r hr => o4.len r (List.mem_of_mem_drop hr)
        obtain ⟨b', o', cap', e1, e2, e3, e4, _⟩ := rsl_rows (cx := .slice (some ⟨b, o, none⟩) len cap) hS (by simp only [VRel]; exact ⟨b, o, cap, rfl, hl, hk, hn, hs, ha⟩) hg (by omega)
        cases e1
        have htk : (rows.drop off).take len = rows.drop off := by rw [List.take_of_length_le (by omega)]
        rw [htk] at e2 e3 e4
        obtain ⟨old, g1, g2, g3⟩ := firstCells_vals (P := P) (cap := cap) e2 e3
        have hrun := grown_raw (P := P) (ty := ty) (base := some ⟨b, o, none⟩) (sLen := len) (sCap := cap) (rows := rows.drop off) (old := old) hu hm' hz' (by rw [hdl]; exact hbig) hrd hdl g1 g2
         (fun w' hw' => g3 w' len hw' hdl.symm) (by omega)
        have := made hSd hrun
        rw [List.length_append, hdl] at this
        exact ⟨this, rfl⟩
      ·cases h
   ·cases h
  ·cases h
theorem take_flatten {es : Nat} : ∀ {rows : List (List AV)}, (∀ r ∈ rows, r.length = es) → ∀ n, (rows.take n).flatten = rows.flatten.take (n * es)
 | [], _, n => by simp
 | r :: rs, h, 0 => by simp
 | r :: rs, h, n + 1 => by
  have hr : r.length = es := h r (by simp)
  rw [List.take_succ_cons, List.flatten_cons, List.flatten_cons, take_flatten (fun x hx => h x (by simp [hx])) n, Nat.add_mul, Nat.one_mul, Nat.add_comm, ← hr, List.take_length_add_append]
theorem src_vals {S : Sto} (hS : HeapRel C S) {es : Nat} {x : AV} {cx : Value} {more : List (List AV)} (hx : VRel C x none cx) (h : srcA S es x = some more) :
  (∀ r ∈ more, r.length = es) ∧ (∀ w', (Builtin.lenOf cx).run P w' = .ok more.length w') ∧ ∀ n, n ≤ more.length → ∃ new : List Value, ListRel C (more.take n).flatten none 0 new ∧ (∀ y ∈ new, flat y) ∧
   (Builtin.firstCells es n cx).run P C.w = .ok new.toArray C.w := by
 have key : ∀ {b o len cap : Nat} {rows : List (List AV)}, Vals C rows.flatten b o → (∀ r ∈ rows, r.length = es) → ∀ n, n ≤ rows.length → ∃ new : List Value, ListRel C (rows.take n).flatten none 0 new ∧ (∀ y ∈ new, flat y) ∧
   (Builtin.firstCells es n (.slice (some ⟨b, o, none⟩) len cap)).run P C.w = .ok new.toArray C.w := by
  intro b o len cap rows hv hl n hn
  obtain ⟨vs, g1, g2, g3⟩ := hv.take (n * es)
  rw [← take_flatten hl] at g1
  refine ⟨vs, g1, g2, run_firstCells_some C.w es n _ _ cap vs ?_ (fun j v hj => by rw [add_none]; exact g3 j v hj)⟩
  rw [g1.length, flatten_length (es := es) (fun r hr => hl r (List.mem_of_mem_take hr)), List.length_take, Nat.min_eq_left hn]
 unfold srcA at h
 split at h
 ·rename_i id es' off len
  unfold rowsIn at h
  simp only at h
  split at h
  ·rename_i es2 rows hg
   split at h
   ·rename_i hc
    obtain ⟨rfl, hlen⟩ := hc
    cases h
    obtain ⟨b, o, cap, rfl, hv, hl, hll, _⟩ := rsl_rows hS hx hg hlen
    exact ⟨hl, fun w' => by rw [hll]; rfl, key hv hl⟩
   ·cases h
  ·cases h
 ·rename_i own es' rows
  split at h
  ·rename_i he
   cases h
   subst he
   simp only [VRel] at hx
   obtain ⟨b, o, cap, s, rfl, hl, hes, hr, _, hs0⟩ := hx
   refine ⟨hr.len, fun w' => rfl, ?_⟩
   rcases hs0 with rfl | hc0
   ·exact key (cells_of_rows hr).vals hr.len
   ·have hnil : more = [] := List.eq_nil_of_length_eq_zero (by omega)
    subst hnil
    intro n hn
    have : n = 0 := by simpa using hn
    subst this
    exact ⟨[], by simp [ListRel], by simp, run_firstCells_some C.w _ 0 _ _ _ [] (by simp) (by simp)⟩
  ·cases h
 ·cases h
theorem copy_fin {d : Nat} {env : List AV} {tmps : Array Value} {dst : Tmp} {st st' : St} (hE : EnvRel C d env tmps) (hS : HeapRel C st.S) {dType ty : TypeId} {ts : Array TypeId} (ht : ts[0]? = some dType) {a x : AV} {ca cx : Value} {v : AV}
  (ha : VRel C a none ca) (hx : VRel C x none cx) (h : copyS P dType a x st = some (.val v st')) : FinS P C d env tmps st'.S dst v (Builtin.copy_ ts ty #[ca, cx]) ∧ st' = { st with S := st'.S } := by
 unfold copyS at h
 split at h
 ·rename_i e id es off len hu
  split at h
  ·rename_i es' rows hg
   split at h
   ·rename_i more hsrc
    split at h
    ·rename_i hc
     obtain ⟨rfl, rfl, hlen⟩ := hc
     cases h
     refine ⟨?_, rfl⟩
     obtain ⟨hml, hlo, hfc⟩ := src_vals (P := P) hS hx hsrc
     generalize hn : min more.length len = n
     have hn1 : n ≤ more.length := by omega
     have hn2 : n ≤ len := by omega
     obtain ⟨new, g1, g2, g3⟩ := hfc n hn1
     obtain ⟨hid, hobj⟩ := hS.get hg
     obtain ⟨o1, o2, o3, o4, o5⟩ := hobj
     simp only [VRel] at ha
     obtain ⟨b, o, cap, rfl, hl, hk, hnn, hs, hal⟩ := ha
     have hmt : ∀ r ∈ more.take n, r.length = P.cellsOf e := fun r hr => hml r (List.mem_of_mem_take hr)
     have hnl : new.length = n * P.cellsOf e := by rw [g1.length, flatten_length hmt, List.length_take, Nat.min_eq_left hn1]
     obtain ⟨hrl, hrf⟩ := ArrRel.flat.1 o4
     have hlt : (more.take n).length = n := by rw [List.length_take, Nat.min_eq_left hn1]
     have hspl := splice_rows (k := off) hrl hmt (by rw [hlt]; omega)
     rw [hlt] at hspl
     have hfit : off * P.cellsOf e + (more.take n).flatten.length ≤ rows.flatten.length := by
      rw [flatten_length hmt, flatten_length hrl, ← Nat.add_mul, hlt]; exact Nat.mul_le_mul_right _ (by omega)
     have hq : [1, id, 0] ≠ [] ∧ [1, id, 0] ≠ froz := ⟨by simp, by simp [froz]⟩
     obtain ⟨k1, k2, k3, k4⟩ := arr_write hq hrf g1 g2 hfit
     have hinfo : ∃ i, P.info? e = some i ∧ P.cellsOf e = i.size := by
      cases hi : P.info? e with
      | none => exfalso; simp [Program.cellsOf, hi] at o1
      | some i => exact ⟨i, rfl, by simp [Program.cellsOf, hi]⟩
     obtain ⟨i, hi, hsz⟩ := hinfo
     -- where the slice lies
     have hbo : cap ≠ 0 → b = C.φ id ∧ o = C.ψ id + off * P.cellsOf e := by
      intro hc0
      obtain ⟨rfl, rfl⟩ := hal.resolve_left hc0
      exact ⟨rfl, by rw [o2]⟩
     have hrun : (Builtin.copy_ ts ty #[.slice (some ⟨b, o, none⟩) len cap, cx]).run P C.w = .ok (goInt n) (C.wr (C.φ id) (C.ψ id + off * P.cellsOf e) new).w := by
      have hst : (storeCells ⟨b, o, none⟩ new).run P C.w = .ok () (C.wr (C.φ id) (C.ψ id + off * P.cellsOf e) new).w := by
       by_cases hc0 : cap = 0
       ·have : n = 0 := by omega
        subst this
        have : new = [] := List.eq_nil_of_length_eq_zero (by rw [hnl]; simp)
        subst this
        simp [storeCells, Ctx.wr, World.setCells]
       ·obtain ⟨rfl, rfl⟩ := hbo hc0
        have := run_storeCells_cells (P := P) (C.φ id) (C.ψ id + off * P.cellsOf e) new 0 C.w (fun j hj => by simpa using k3 j hj) (fun j hj => by simpa using k4 j hj) (fun y hy => flat_one (g2 y hy))
        simpa [Ctx.wr] using this
      unfold Builtin.copy_
      have hmin : Nat.min more.length len = n := hn
      simp only [ht, List.getElem?_toArray, List.getElem?_cons_zero, List.getElem?_cons_succ]
      simp [run_underlying hu, hlo, hmin, sizeOf, typeInfo, hi, ← hsz, g3, hst]
     have hlen' : (rows.take off ++ more.take n ++ rows.drop (off + n)).length = rows.length := by
      simp only [List.length_append, List.length_take, List.length_drop]; omega
     refine ⟨_, C.wr (C.φ id) (C.ψ id + off * P.cellsOf e) new, hrun, EnvRel.set (hE.mono k2 (fun t' r' e => by simp at e)) dst (by simp only [VRel]; rfl), ?_, k2.weaken (fun l hl => by subst hl; exact ⟨1, [id, 0], rfl, .inl rfl⟩)⟩
     refine hS.put hg k2 rfl (fun j r' hne e => by simp at e; exact hne e.1) (wr_fresh hS.fresh) ⟨o1, o2, by rw [hlen']; exact o3, ?_, ?_⟩
     ·refine ArrRel.flat.2 ⟨fun y hy => ?_, by rw [hspl]; exact k1⟩
      simp only [List.mem_append] at hy
      rcases hy with (hy | hy) | hy
      ·exact hrl y (List.mem_of_mem_take hy)
      ·exact hmt y hy
      ·exact hrl y (List.mem_of_mem_drop hy)
     ·rw [hlen']; exact Spare.wr o5 k2
    ·cases h
   ·cases h
  ·cases h
 ·cases h
def fzL (id : Nat) (l : List Nat) : List Nat := if l = [1, id, 0] then froz else l
theorem fzL_self (id : Nat) : fzL id [1, id, 0] = froz := if_pos rfl
theorem fzL_froz (id : Nat) : fzL id froz = froz := if_neg (by simp [froz])
theorem fzL_other {id : Nat} {l : List Nat} (h : l ≠ [1, id, 0]) : fzL id l = l := if_neg h
theorem ArrRow.frz {id : Nat} : ∀ {vs : List AV} {b o : Nat}, ArrRow C [1, id, 0] vs b o → CellsRel (C.map (fzL id)) vs b o
 | [], _, _, _ => by simp [CellsRel]
 | v :: vs, b, o, ⟨⟨c, h1, _, h3, h4, h5⟩, hr⟩ => by
  simp only [CellsRel]
  exact ⟨⟨c, h1, by show fzL id (C.L b o) = froz; rw [h3, fzL_self], h4, VRel.map (fzL_froz id) v none none c (.inl ⟨rfl, rfl⟩) (isPl_lp h5.none_lp) (fun _ => rfl) h5⟩, hr.frz⟩
theorem ArrRel.frz {id : Nat} : ∀ {rs : List (List AV)} {b o es : Nat}, ArrRel C [1, id, 0] rs b o es → RowsRel (C.map (fzL id)) rs b o es
 | [], _, _, _, _ => by simp [RowsRel]
 | r :: rs, b, o, es, ⟨h1, h2, h3⟩ => by
  simp only [RowsRel]
  exact ⟨h1, h2.frz, h3.frz⟩
theorem HeapRel.frz {S : Sto} (hS : HeapRel C S) (id : Nat) : HeapRel (C.map (fzL id)) (S.drop id) := by
 refine ⟨hS.n, keys_drop hS.nodup, fun i o h => ?_, fun b o hb => ?_, hS.base.1, fun b o hb => ?_⟩
 ·obtain ⟨hi, hm⟩ := mem_drop hS.nodup h
  refine ⟨(hS.obj i o hm).1, (hS.obj i o hm).2.map (fzL_froz id) (fun r => fzL_other ?_)⟩
  simp only [ne_eq, List.cons.injEq, true_and, not_and]
  exact fun e => absurd e hi
 ·show fzL id (C.L b o) = []
  rw [hS.fresh b o hb]; exact fzL_other (by simp)
 ·show fzL id (C.L b o) = froz
  rw [hS.base.2 b o hb, fzL_froz]
theorem chunk_len {es : Nat} : ∀ (n : Nat) (cs : List AV), cs.length = n * es → (∀ r ∈ chunk es n cs, r.length = es) ∧ (chunk es n cs).flatten = cs ∧ (chunk es n cs).length = n
 | 0, cs, h => by
  have : cs = [] := List.eq_nil_of_length_eq_zero (by simpa using h)
  subst this
  simp [chunk]
 | n + 1, cs, h => by
  rw [Nat.add_mul, Nat.one_mul] at h
  obtain ⟨h1, h2, h3⟩ := chunk_len (es := es) n (cs.drop es) (by rw [List.length_drop]; omega)
  refine ⟨fun r hr => ?_, ?_, by simp [chunk, h3]⟩
  ·simp only [chunk, List.mem_cons] at hr
   rcases hr with rfl | hr
   ·rw [List.length_take]; omega
   ·exact h1 r hr
  ·simp only [chunk, List.flatten_cons, h2, List.take_append_drop]
theorem BoxRel.frz {id : Nat} : ∀ {cs : List AV} {b j : Nat}, BoxRel C cs b [1, id] j → CellsRel (C.map (fzL id)) (cs.map AV.strip0) b j
 | [], _, _, _ => by simp [CellsRel]
 | v :: vs, b, j, h => by
  simp only [BoxRel] at h
  obtain ⟨⟨c, h1, _, h3, h4, h5, h6⟩, hr⟩ := h
  simp only [List.map_cons, CellsRel]
  have hv : VRel C v.strip0 none c := (h6.strip0 none).1
  exact ⟨⟨c, h1, by show fzL id (C.L b j) = froz; rw [h3]; exact fzL_self id, h4, VRel.map (fzL_froz id) _ none none c (.inl ⟨rfl, rfl⟩) (isPl_lp hv.none_lp) (fun _ => rfl) hv⟩, hr.frz⟩
theorem sliceF_fin {d : Nat} {env : List AV} {tmps : Array Value} {cons : List Tmp} {dst : Tmp} {st st' : St} (hE : EnvRel C d env tmps) (hS : HeapRel C st.S) {t : TypeId} {a v : AV} {ca : Value} {q : Option (List Nat)} {lo hi mx : Option Operand} {ρ : Operand → Value}
  (ha : VRel C a q ca) (h : sliceF P t a lo hi mx st = some (.val v st')) : FinS P C d (stripAt env cons) tmps st'.S dst v (Instr.sliceAt t ca (lo.map ρ) (hi.map ρ) (mx.map ρ)) ∧ st' = { st with S := st'.S } := by
 unfold sliceF at h
 split at h
 ·rename_i n e id hu
  split at h
  ·rename_i cs hg
   split at h
   ·rename_i hc
    obtain ⟨hpos, hlen⟩ := hc
    cases h
    refine ⟨?_, rfl⟩
    simp only [VRel] at ha
    obtain ⟨rfl, hid⟩ := ha
    obtain ⟨_, hobj⟩ := hS.get hg
    have hbox : BoxRel C cs (C.φ id) [1, id] 0 := hobj
    obtain ⟨c1, c2, c3⟩ := chunk_len n (cs.map AV.strip0) (by rw [List.length_map]; exact hlen)
    have hx : Ext (fun l => l = [1, id, 0]) C (C.map (fzL id)) := Ext.map C (fzL_froz id) (fun l hl => fzL_other hl)
    have hinfo : ∃ i, P.info? e = some i ∧ P.cellsOf e = i.size := by
     cases hi : P.info? e with
     | none => exfalso; simp [Program.cellsOf, hi] at hpos
     | some i => exact ⟨i, rfl, by simp [Program.cellsOf, hi]⟩
    obtain ⟨i, hi, hsz⟩ := hinfo
    have hrun : (Instr.sliceAt t (.pointer (some ⟨C.φ id, 0, none⟩)) none none none).run P C.w = .ok (.slice (some ⟨C.φ id, 0, none⟩) n n) C.w := by
     by_cases hn : n = 0
     ·simp [Instr.sliceAt, run_underlying hu, Instr.sureAddr, Instr.sliceBounds, sizeOf, typeInfo, hi, hn]
     ·simp [Instr.sliceAt, run_underlying hu, Instr.sureAddr, Instr.sliceBounds, sizeOf, typeInfo, hi, hn, Addr.add]
    refine ⟨_, C.map (fzL id), hrun, EnvRel.set ((hE.mono hx (fun t r e => by simp at e)).stripAt cons) dst ?_, hS.frz id, hx.weaken (fun l hl => by subst hl; exact ⟨1, [id, 0], rfl, .inl rfl⟩)⟩
    simp only [VRel]
    refine ⟨C.φ id, 0, n, none, by rw [c3], by rw [c3]; exact Nat.le_refl _, hpos, rows_of c1 (by rw [c2]; exact hbox.frz), (fun h => by cases h), .inl rfl⟩
   ·cases h
  ·cases h
 ·cases h
end Go.Ab
namespace Go.Ab
variable {P : Program} {C : Ctx} {n : Nat}
def Ctx.fz (C : Ctx) (a : Addr) : Ctx := { C with w := match C.w.shape? a.block with | some (_, n) => C.w.freeze ⟨a.block, n, none⟩ 1 | none => C.w }
theorem run_mark (w : World) (a : Addr) : (markStringish a).run P w = .ok () (match w.shape? a.block with | some (_, n) => w.freeze ⟨a.block, n, none⟩ 1 | none => w) := by
 simp only [markStringish]
 cases h : w.shape? a.block with
 | none => simp [h]
 | some x => obtain ⟨t, m⟩ := x; simp [h]
theorem Ext.fz (X : List Nat → Prop) (C : Ctx) (a : Addr) (hbase : C.base ≤ a.block) : Ext X C (C.fz a) := by
 have key : ∀ b : Nat, (C.fz a).w.heap[b]? = C.w.heap[b]? ∨ ∃ cs e fr fr', C.w.heap[b]? = some (.cells cs e fr) ∧ (C.fz a).w.heap[b]? = some (.cells cs e fr') ∧ (FrOK fr cs.size → FrOK fr' cs.size) := by
  intro b
  unfold Ctx.fz
  cases hs : C.w.shape? a.block with
  | none => exact .inl rfl
  | some x =>
   obtain ⟨t, m⟩ := x
   simp only [World.freeze, if_neg (show ¬ (1 = 0) by decide)]
   rw [Array.getElem?_modify]
   by_cases hb : a.block = b
   ·subst hb
    rw [if_pos rfl]
    unfold World.shape? at hs
    cases ho : C.w.heap[a.block]? with
    | none => exact .inl rfl
    | some o =>
     cases o
     case cells cs e fr =>
      obtain ⟨lo, hi⟩ := fr
      rw [ho] at hs
      simp at hs
      right
      refine ⟨cs, e, (lo, hi), _, rfl, rfl, fun hf => ?_⟩
      obtain ⟨_, rfl⟩ := hs
      rcases hf with hf | hf <;> simp at hf
      ·subst hf; simp [FrOK]
      ·right
       by_cases h : lo = hi
       ·simp [h]
       ·have : (lo == hi) = false := by simpa using h
        simp [this]; omega
     all_goals exact .inl rfl
   ·rw [if_neg hb]; exact .inl rfl
 have keyO : ∀ b : Nat, b ≠ a.block → (C.fz a).w.heap[b]? = C.w.heap[b]? := by
  intro b hne
  unfold Ctx.fz
  cases hs : C.w.shape? a.block with
  | none => rfl
  | some x =>
   obtain ⟨t, m⟩ := x
   simp only [World.freeze, if_neg (show ¬ (1 = 0) by decide)]
   rw [Array.getElem?_modify, if_neg (Ne.symm hne)]
 have outO : (C.fz a).w.os = C.w.os ∧ (C.fz a).w.tape = C.w.tape ∧ (C.fz a).w.output = C.w.output ∧ (C.fz a).w.heap.size = C.w.heap.size := by
  unfold Ctx.fz
  cases hs : C.w.shape? a.block with
  | none => exact ⟨rfl, rfl, rfl, rfl⟩
  | some x =>
   obtain ⟨t, m⟩ := x
   simp only [World.freeze, if_neg (show ¬ (1 = 0) by decide)]
   simp
 have same : ∀ b o, Same C.w (C.fz a).w b o := by
  intro b o
  rcases key b with h | ⟨cs, e, fr, fr', h1, h2, _⟩
  ·exact same_of_block h o
  ·refine ⟨by simp only [World.cell?, h1, h2], fun x hx hc => ?_⟩
   rw [h1] at hx; cases hx; simp [isCellsO] at hc
 exact ⟨Nat.le_refl _, fun _ _ => ⟨rfl, rfl, rfl, rfl⟩, fun b o h => ⟨h, same b o⟩, fun b o _ _ => ⟨rfl, same b o⟩, fun _ _ _ => rfl, fun b cs e fr h => by
  rcases key b with h' | ⟨cs', e', fr1, fr2, h1, h2, h3⟩
  ·exact ⟨cs, fr, h'.trans h, rfl, fun h => h⟩
  ·rw [h] at h1; cases h1
   exact ⟨cs, fr2, h2, rfl, h3⟩,
  ⟨rfl, by rw [outO.2.2.2]; exact Nat.le_refl _, outO.1, outO.2.1, outO.2.2.1, fun b cs e fr hb h => ⟨cs, (keyO b (by rintro rfl; exact absurd hb (Nat.not_lt.2 hbase))).trans h⟩⟩⟩
theorem fz_size (C : Ctx) (a : Addr) : (C.fz a).w.heap.size = C.w.heap.size := by
 unfold Ctx.fz
 cases C.w.shape? a.block with
 | none => rfl
 | some x => simp [World.freeze]
theorem convert_fin {d : Nat} {env : List AV} {tmps : Array Value} {S : Sto} {cons : List Tmp} {dst : Tmp} (hE : EnvRel C d env tmps) (hS : HeapRel C S) {src ty : TypeId} {x v : AV} {cx : Value}
  (hx0 : (∃ t ∈ cons, VRel C x (some [d + 2, t]) cx ∧ isPl x = false) ∨ VRel C x none cx) (h : convA P src ty x = some v) : Fin P C d env tmps S cons dst v (convert src ty cx) := by
 obtain ⟨p, hx⟩ : ∃ p, VRel C x p cx := by rcases hx0 with ⟨t, _, h, _⟩ | h <;> exact ⟨_, h⟩
 unfold convA at h
 split at h
 ·rename_i ds k k' nn hs hd
  cases h
  simp only [VRel] at hx; subst hx
  refine got_fin hE hS (c := .int k (k.wrap nn)) ?_ (Got.plain (by simp only [VRel]))
  simp [convert, run_underlying hs, run_underlying hd, Conv.intToInt]
 ·rename_i ds s hs hd
  cases h
  simp only [VRel] at hx
  obtain ⟨b, rfl, rfl⟩ := hx
  refine got_fin hE hS (c := .string b) ?_ (Got.plain (by simp only [VRel]; exact ⟨b, rfl, rfl⟩))
  simp [convert, run_underlying hs, run_underlying hd]
 ·rename_i ds k' nn hs hd
  cases h
  simp only [VRel] at hx; subst hx
  refine got_fin hE hS (c := .string (Utf8.encode nn)) ?_ (Got.plain (by simp only [VRel]; exact ⟨_, rfl, rfl⟩))
  simp [convert, run_underlying hs, run_underlying hd, Conv.intToString]
 ·rename_i e hs hd
  split at h
  ·rename_i he
   cases h
   simp only [VRel] at hx; subst hx
   refine got_fin hE hS (c := .string .empty) ?_ (Got.plain (by simp only [VRel]; exact ⟨_, rfl, rfl⟩))
   simp [convert, run_underlying hs, run_underlying hd, run_underlying he, Conv.bytesToString]
  ·cases h
 ·rename_i e0 e es row0 rows0 hs hd
  split at h
  ·rename_i heq he
   cases h
   obtain ⟨b, o, cap, hc, hbb⟩ : ∃ b o cap, cx = .slice (some ⟨b, o, none⟩) (row0 :: rows0).length cap ∧ C.base ≤ b := by
    simp only [VRel] at hx
    obtain ⟨b, o, cap, s, hc, hle, _, _, ho, hs0⟩ := hx
    obtain ⟨_, _, _, hbb⟩ := ho trivial
    obtain rfl : s = none := hs0.resolve_right (by simp at hle; omega)
    exact ⟨b, o, cap, hc, hbb (by simp)⟩
   have hxx : Ext (fun _ => False) C (C.fz ⟨b, o, none⟩) := Ext.fz _ C _ hbb
   have hE1 := hE.mono hxx (fun _ _ h => h)
   have hS1 := hS.mono hxx rfl (fun _ h => h) (fun b' x' hb' => hS.fresh b' x' (by rw [← fz_size C ⟨b, o, none⟩]; exact hb'))
   have hg : Got (C.fz ⟨b, o, none⟩) d cons dst (.sl true es (row0 :: rows0)) cx := by
    rcases hx0 with ⟨t, ht, h, hp⟩ | h
    ·exact Got.from ht (VRel.mono hxx _ _ _ (fun q hq => by cases hq; exact ⟨by simp, by simp [froz], fun _ h => h⟩) rfl h) hp
    ·exact Got.plain (VRel.mono hxx _ _ _ (Off.none _) rfl h)
   obtain ⟨C', hw, h1, h2, h3⟩ := got_ok hE1 hS1 (hxx.weaken (fun _ h => h.elim)) hg
   refine ⟨cx, C', ?_, h1, h2, h3⟩
   rw [hw, hc]
   simp only [convert, Sem.run_bind, run_underlying hs, run_underlying hd, run_underlying he, Result.andThen_ok, heq, run_mark, Sem.run_pure]
   rfl
  ·cases h
 ·rename_i e own rows hs hd
  split at h
  ·rename_i he
   cases hb : bytesOf? rows with
   | none => rw [hb] at h; cases h
   | some bs =>
    rw [hb] at h; cases h
    simp only [VRel] at hx
    obtain ⟨b, o, cap, s, rfl, hl, hes, hr, _, hs0⟩ := hx
    rcases hs0 with rfl | hc0
    rotate_left
    ·have hnil : rows = [] := List.eq_nil_of_length_eq_zero (by omega)
     subst hnil
     cases hb
     refine got_fin hE hS (c := .string .empty) ?_ (Got.plain (by simp only [VRel]; exact ⟨_, rfl, rfl⟩))
     rw [run_convert_bytes_string C.w src ty e _ _ _ hs he hd]
     exact run_bytesToString C.w _ 0 cap [] (by
      have := run_loadCells_list (P := P) C.w ⟨b, o, s⟩ [] (fun j v hj => by simp at hj)
      simpa using this)
    obtain ⟨c, hc, hv⟩ := bytesToString_run (P := P) (cap := cap) rfl (cells_of_rows hr).vals hb
    refine got_fin hE hS (c := c) ?_ (Got.plain hv)
    rw [run_convert_bytes_string C.w src ty e _ _ _ hs he hd]
    exact hc
  ·cases h
 ·rename_i e s hs hd
  split at h
  ·rename_i he
   split at h
   ·cases h
    simp only [VRel] at hx
    obtain ⟨b, rfl, rfl⟩ := hx
    have hrun := run_bytes_of_string (P := P) C.w src ty e b hs hd he
    have hge : b.size ≤ grownCap C.w b.size 0 e := grownCap_ge C.w b.size 0 e
    have hbl : b.data.toList.length = b.size := by simp
    refine made_fin hE (RawNew.made hS ⟨C.w.drew, b.data.toList.map (fun u => Value.int .u8 u.toNat), Array.replicate (grownCap C.w b.size 0 e - b.size) (.int .u8 0), e, ((bytesRow b (grownCap C.w b.size 0 e)).size, (bytesRow b (grownCap C.w b.size 0 e)).size + 1), grownCap C.w b.size 0 e, ⟨rfl, rfl, rfl, rfl⟩, ?_, ?_, Nat.le_refl _, ?_, ?_, ?_, ?_, ?_⟩)
    ·rw [hrun]
     have e1 : (b.data.toList.map byteRow).length = b.size := by simp
     have e2 : bytesRow b (grownCap C.w b.size 0 e) = (b.data.toList.map (fun u => Value.int .u8 (u.toNat : Int))).toArray ++ Array.replicate (grownCap C.w b.size 0 e - b.size) (.int .u8 0) := by
      unfold bytesRow
      congr 1
      apply Array.ext'
      simp
     rw [e1, e2]
    ·simpa using hge
    ·intro r hr
     obtain ⟨u, _, rfl⟩ := List.mem_map.1 hr
     rfl
    ·rw [bytes_rows]; exact bytes_rel C _ 0
    ·intro y hy
     obtain ⟨u, _, rfl⟩ := List.mem_map.1 hy
     trivial
    ·simp; omega
    ·right
     simp [bytesRow]
     omega
   ·cases h
  ·cases h
 ·cases h
theorem convert_arr {d : Nat} {env : List AV} {tmps : Array Value} {S : Sto} {cons : List Tmp} {dst : Tmp} (hE : EnvRel C d env tmps) (hS : HeapRel C S) {src ty e : TypeId} {id es off len : Nat} {rows : List (List AV)} {bs : List UInt8} {cx : Value}
  (hs : P.underlying src = some (.slice e)) (hd : P.underlying ty = some .string) (he : P.underlying e = some (.int .u8)) (hx : VRel C (.rsl id es off len) none cx) (h : rowsIn S 1 (.rsl id es off len) = some rows) (hb : bytesOf? rows = some bs) :
  Fin P C d env tmps S cons dst (.str bs) (convert src ty cx) := by
 unfold rowsIn at h
 simp only at h
 split at h
 ·rename_i es' rws hg
  split at h
  ·rename_i hc
   obtain ⟨rfl, hlen⟩ := hc
   cases h
   obtain ⟨b, o, cap, rfl, hv, hl, hll, _⟩ := rsl_rows hS hx hg hlen
   obtain ⟨c, hc, hvc⟩ := bytesToString_run (P := P) (len := len) (cap := cap) hll.symm hv hb
   refine got_fin hE hS (c := c) ?_ (Got.plain hvc)
   rw [run_convert_bytes_string C.w src ty e _ _ _ hs he hd]
   exact hc
  ·cases h
 ·cases h
theorem len_run {S : Sto} (hS : HeapRel C S) {t ty : TypeId} {ts : Array TypeId} (ht : ts[0]? = some t) {x v : AV} {p : Option (List Nat)} {cx : Value} (hx : VRel C x p cx) (h : lenA P S t x = some v) :
  ∃ c, (Builtin.len_ ts ty #[cx]).run P C.w = .ok c C.w ∧ VRel C v none c := by
 unfold lenA at h
 split at h
 ·rename_i s hu
  cases h
  simp only [VRel] at hx
  obtain ⟨b, rfl, rfl⟩ := hx
  refine ⟨.int .i64 b.size, ?_, by simp [VRel]⟩
  simp [Builtin.len_, ht, run_underlying hu, goInt]
 ·rename_i nn e hu
  cases h
  refine ⟨.int .i64 nn, ?_, by simp only [VRel]⟩
  simp [Builtin.len_, ht, run_underlying hu, goInt]
 ·rename_i e hu
  cases h
  simp only [VRel] at hx; subst hx
  refine ⟨.int .i64 0, ?_, by simp only [VRel]⟩
  simp [Builtin.len_, ht, run_underlying hu, goInt]
 ·rename_i e own es rows hu
  cases h
  simp only [VRel] at hx
  obtain ⟨b, o, cap, s, rfl, _⟩ := hx
  refine ⟨.int .i64 rows.length, ?_, by simp only [VRel]⟩
  simp [Builtin.len_, ht, run_underlying hu, goInt]
 ·rename_i e id es off len hu
  cases h
  simp only [VRel] at hx
  obtain ⟨b, o, cap, rfl, _⟩ := hx
  refine ⟨.int .i64 len, ?_, by simp only [VRel]⟩
  simp [Builtin.len_, ht, run_underlying hu, goInt]
 ·rename_i e id es off len hu
  cases h
  simp only [VRel] at hx
  obtain ⟨b, o, rfl, _⟩ := hx
  refine ⟨.int .i64 len, ?_, by simp only [VRel]⟩
  simp [Builtin.len_, ht, run_underlying hu, goInt]
 ·rename_i k e hu
  cases h
  simp only [VRel] at hx; subst hx
  refine ⟨.int .i64 0, ?_, by simp only [VRel]⟩
  simp [Builtin.len_, ht, run_underlying hu, goInt]
 ·rename_i k e id hu
  split at h
  ·rename_i es hg
   cases h
   simp only [VRel] at hx
   obtain ⟨rfl, _⟩ := hx
   obtain ⟨_, ⟨ces, clock, h1, h2⟩, _⟩ := hS.get hg
   refine ⟨.int .i64 es.length, ?_, by simp only [VRel]⟩
   have h3 : (getObj (C.φ id)).run P C.w = .ok (.map ces clock) C.w := by simp [getObj, Sem.run, h1]
   simp [Builtin.len_, ht, run_underlying hu, goInt, h3, ← h2.length]
  ·cases h
 ·cases h
theorem cap_run {t ty : TypeId} {ts : Array TypeId} (ht : ts[0]? = some t) {x v : AV} {p : Option (List Nat)} {cx : Value} (hx : VRel C x p cx) (h : capA P t x = some v) :
  ∃ c, (Builtin.cap_ ts ty #[cx]).run P C.w = .ok c C.w ∧ VRel C v none c := by
 unfold capA at h
 split at h
 ·rename_i e hu
  cases h
  simp only [VRel] at hx; subst hx
  refine ⟨.int .i64 0, ?_, by simp only [VRel]⟩
  simp [Builtin.cap_, ht, run_underlying hu, goInt]
 ·cases h
theorem range_fin {d : Nat} {env : List AV} {tmps : Array Value} {S : Sto} {dst : Tmp} (hE : EnvRel C d env tmps) (hS : HeapRel C S) {t : TypeId} {s : List UInt8} {p : Option (List Nat)} {cx : Value} (hu : P.underlying t = some .string) (hx : VRel C (.str s) p cx) :
  FinS P C d env tmps (S.new (.siter ⟨s.toArray⟩ 0)) dst (.ptr S.next 0) (Instr.range t cx) := by
 simp only [VRel] at hx
 obtain ⟨b, rfl, rfl⟩ := hx
 let C2 := C.give (.stringIter b 0) (fun _ => [1, S.next, 0]) 0 0 0
 have hx : Ext (fun _ => False) C C2 := Ext.give hS.fresh
 have hn : C.n = S.next := hS.n
 have hφ : C2.φ S.next = C.w.heap.size := by show (if S.next = C.n then _ else _) = _; rw [if_pos hn.symm]
 have hL : ∀ j, C2.L C.w.heap.size j = [1, S.next, 0] := by
  intro j
  show (if C.w.heap.size = C.w.heap.size then _ else _) = _
  rw [if_pos rfl]
 have hb : (⟨b.data.toList.toArray⟩ : ByteArray) = b := by cases b; simp
 refine ⟨.pointer (some ⟨C.w.heap.size, 0, none⟩), C2, ?_, (hE.mono hx (fun _ _ h => h)).set dst ?_, HeapRel.give hS ?_, hx.weaken (fun _ h => h.elim)⟩
 ·simp [Instr.range, run_underlying hu]
  rfl
 ·simp only [VRel]
  exact ⟨by rw [hφ], by show S.next < C.n + 1; omega⟩
 ·rw [hb, hn]
  show C2.w.heap[C2.φ S.next]? = _ ∧ _
  rw [hφ]
  exact ⟨alloc_new _ _, hL⟩
def Ctx.setO (C : Ctx) (b : Nat) (o : Go.Obj) : Ctx := { C with w := { C.w with heap := C.w.heap.setIfInBounds b o } }
theorem Ext.setO {X : List Nat → Prop} {b : Nat} {x o : Go.Obj} (hb : C.w.heap[b]? = some x) (hc : isCellsO x = false) (hX : ∀ j, X (C.L b j) ∧ C.L b j ≠ froz) : Ext X C (C.setO b o) where
 n := Nat.le_refl _
 ids := fun _ _ => ⟨rfl, rfl, rfl, rfl⟩
 fr := fun b' j h => by
  have : b' ≠ b := by rintro rfl; exact (hX j).2 h
  exact ⟨h, same_of_block (by show (C.w.heap.setIfInBounds b o)[b']? = _; rw [Array.getElem?_setIfInBounds_ne (Ne.symm this)]) j⟩
 keep := fun b' j h hx => by
  have : b' ≠ b := by rintro rfl; exact hx (hX j).1
  exact ⟨rfl, same_of_block (by show (C.w.heap.setIfInBounds b o)[b']? = _; rw [Array.getElem?_setIfInBounds_ne (Ne.symm this)]) j⟩
 β := fun _ _ _ => rfl
 shape := fun b' cs e fr h => by
  have : b' ≠ b := by rintro rfl; rw [hb] at h; cases h; simp [isCellsO] at hc
  exact ⟨cs, fr, by show (C.w.heap.setIfInBounds b o)[b']? = _; rw [Array.getElem?_setIfInBounds_ne (Ne.symm this)]; exact h, rfl, id⟩
 old := ⟨rfl, by show _ ≤ (C.w.heap.setIfInBounds b o).size; simp, rfl, rfl, rfl, fun b' cs e fr _ h => by
  have : b' ≠ b := by rintro rfl; rw [hb] at h; cases h; simp [isCellsO] at hc
  exact ⟨cs, by show (C.w.heap.setIfInBounds b o)[b']? = _; rw [Array.getElem?_setIfInBounds_ne (Ne.symm this)]; exact h⟩⟩
theorem setO_fresh {b : Nat} {o : Go.Obj} (hfr : ∀ b x, C.w.heap.size ≤ b → C.L b x = []) : ∀ b' x, (C.setO b o).w.heap.size ≤ b' → (C.setO b o).L b' x = [] := by
 intro b' x h
 have : (C.setO b o).w.heap.size = C.w.heap.size := by show (C.w.heap.setIfInBounds b o).size = _; simp
 exact hfr b' x (by omega)
theorem run_getSiter {w : World} {b : Nat} {s : ByteArray} {pos : Nat} (h : w.heap[b]? = some (.stringIter s pos)) : (getObj b).run P w = .ok (.stringIter s pos) w := by simp [getObj, Sem.run, h]
theorem run_setSiter {w : World} {b : Nat} {s : ByteArray} {pos : Nat} (o : Go.Obj) (h : w.heap[b]? = some (.stringIter s pos)) : (setObj b o).run P w = .ok () { w with heap := w.heap.setIfInBounds b o } := by simp [setObj, Sem.run, h]
theorem next_more {d : Nat} {env : List AV} {tmps : Array Value} {S : Sto} {dst : Tmp} (hE : EnvRel C d env tmps) (hS : HeapRel C S) {ty : TypeId} {id : Nat} {s : ByteArray} {pos : Nat} {p : Option (List Nat)} {cx : Value} (hx : VRel C (.ptr id 0) p cx)
  (hg : S.get id = some (.siter s pos)) (hlt : pos < s.size) :
  FinS P C d env tmps (S.put id (.siter s (pos + (Utf8.decode s pos).2))) dst (.tup [.bool true, .int .i64 pos, .int .i32 (Utf8.decode s pos).1]) (Instr.next cx true ty) := by
 simp only [VRel] at hx
 obtain ⟨rfl, _⟩ := hx
 obtain ⟨hid, h1, h2⟩ := hS.get hg
 have hxx : Ext (fun l => l = [1, id, 0]) C (C.setO (C.φ id) (.stringIter s (pos + (Utf8.decode s pos).2))) := Ext.setO h1 rfl (fun j => ⟨h2 j, by rw [h2 j]; simp [froz]⟩)
 have hlt' := (Array.getElem?_eq_some_iff.1 h1).1
 refine ⟨.tuple #[.bool true, .int .i64 pos, .int .i32 (Utf8.decode s pos).1], _, ?_, (hE.mono hxx (fun _ _ h => by simp at h)).set dst ?_, hS.put hg hxx rfl (fun i r hne e => by simp at e; exact hne e.1) (setO_fresh hS.fresh) ?_, hxx.weaken (fun l hl => by subst hl; exact ⟨1, [id, 0], rfl, .inl rfl⟩)⟩
 ·simp [Instr.next, run_getSiter h1, run_setSiter _ h1, hlt, goInt, Ctx.setO]
 ·simp only [VRel, ListRel]
  exact ⟨[.bool true, .int .i64 pos, .int .i32 (Utf8.decode s pos).1], rfl, _, _, rfl, rfl, rfl, _, _, rfl, rfl, rfl, _, _, rfl, rfl, rfl, rfl⟩
 ·refine ⟨?_, h2⟩
  show (C.w.heap.setIfInBounds (C.φ id) _)[C.φ id]? = _
  rw [Array.getElem?_setIfInBounds_self_of_lt hlt']
theorem next_over {S : Sto} (hS : HeapRel C S) {ty : TypeId} {id : Nat} {s : ByteArray} {pos : Nat} {p : Option (List Nat)} {cx : Value} (hx : VRel C (.ptr id 0) p cx)
  (hg : S.get id = some (.siter s pos)) (hlt : ¬ pos < s.size) :
  ∃ c, (Instr.next cx true ty).run P C.w = .ok c C.w ∧ VRel C (.tup [.bool false]) none c := by
 simp only [VRel] at hx
 obtain ⟨rfl, _⟩ := hx
 obtain ⟨hid, h1, h2⟩ := hS.get hg
 refine ⟨.tuple #[.bool false], ?_, ?_⟩
 ·simp [Instr.next, run_getSiter h1, hlt]
 ·simp only [VRel, ListRel]
  exact ⟨[.bool false], rfl, _, _, rfl, rfl, rfl, rfl⟩
end Go.Ab
namespace Go.Ab
variable {P : Program} {C : Ctx} {n : Nat}
theorem MapRel.get : ∀ {es : List (AV × AV)} {ces : List MapEntry}, MapRel C es ces → ∀ (j : Nat) {k v : AV}, es[j]? = some (k, v) → ∃ e, ces[j]? = some e ∧ VRel C k none e.key ∧ VRel C v none e.val
 | (k, v) :: _, e :: _, ⟨h1, h2, h3⟩, 0, _, _, hj => by simp at hj; obtain ⟨rfl, rfl⟩ := hj; exact ⟨e, rfl, h1, h2⟩
 | _ :: _, _ :: _, ⟨_, _, h3⟩, j + 1, _, _, hj => by simpa using h3.get j (by simpa using hj)
 | [], [], _, _, _, _, hj => by simp at hj
 | [], _ :: _, h, _, _, _, _ => h.elim
 | _ :: _, [], h, _, _, _, _ => h.elim
theorem MapRel.push : ∀ {es : List (AV × AV)} {ces : List MapEntry}, MapRel C es ces → ∀ {k v : AV} {e : MapEntry}, VRel C k none e.key → VRel C v none e.val → MapRel C (es ++ [(k, v)]) (ces ++ [e])
 | [], [], _, _, _, _, h1, h2 => ⟨h1, h2, trivial⟩
 | (_, _) :: _, _ :: _, ⟨a, b, h⟩, _, _, _, h1, h2 => ⟨a, b, h.push h1 h2⟩
 | [], _ :: _, h, _, _, _, _, _ => h.elim
 | _ :: _, [], h, _, _, _, _, _ => h.elim
theorem MapRel.set : ∀ {es : List (AV × AV)} {ces : List MapEntry}, MapRel C es ces → ∀ (i : Nat) {k v : AV} {e : MapEntry}, VRel C k none e.key → VRel C v none e.val → MapRel C (es.set i (k, v)) (ces.set i e)
 | [], [], _, _, _, _, _, _, _ => trivial
 | (_, _) :: _, _ :: _, ⟨_, _, h⟩, 0, _, _, _, h1, h2 => ⟨h1, h2, h⟩
 | (_, _) :: _, _ :: _, ⟨a, b, h⟩, i + 1, _, _, _, h1, h2 => ⟨a, b, h.set i h1 h2⟩
 | [], _ :: _, h, _, _, _, _, _, _ => h.elim
 | _ :: _, [], h, _, _, _, _, _, _ => h.elim
theorem MapRel.erase : ∀ {es : List (AV × AV)} {ces : List MapEntry}, MapRel C es ces → ∀ (i : Nat), MapRel C (es.eraseIdx i) (ces.eraseIdx i)
 | [], [], _, _ => trivial
 | (_, _) :: _, _ :: _, ⟨_, _, h⟩, 0 => h
 | (_, _) :: _, _ :: _, ⟨a, b, h⟩, i + 1 => ⟨a, b, h.erase i⟩
 | [], _ :: _, h, _ => h.elim
 | _ :: _, [], h, _ => h.elim
theorem MapRel.modify {f : MapEntry → MapEntry} : ∀ {es : List (AV × AV)} {ces : List MapEntry}, MapRel C es ces → ∀ (j : Nat) {k v : AV}, (∀ e, ces[j]? = some e → VRel C k none (f e).key ∧ VRel C v none (f e).val) → MapRel C (es.set j (k, v)) (ces.modify j f)
 | [], [], _, j, _, _, _ => by cases j <;> trivial
 | (_, _) :: _, e :: _, ⟨_, _, h⟩, 0, _, _, hf => by
  obtain ⟨h1, h2⟩ := hf e rfl
  exact ⟨h1, h2, h⟩
 | (_, _) :: _, _ :: _, ⟨a, b, h⟩, j + 1, _, _, hf => ⟨a, b, h.modify j (fun e he => hf e (by simpa using he))⟩
 | [], _ :: _, h, _, _, _, _ => h.elim
 | _ :: _, [], h, _, _, _, _ => h.elim
theorem findA_get {t : TypeId} {k : AV} : ∀ {es : List (AV × AV)} (i : Nat) {j : Nat} {k' v : AV}, findA P t k es i = some (some (j, k', v)) → i ≤ j ∧ es[j - i]? = some (k', v)
 | [], _, _, _, _, h => by simp [findA] at h
 | (k0, v0) :: es, i, j, k', v, h => by
  unfold findA at h
  split at h
  ·cases h; exact ⟨Nat.le_refl _, by simp⟩
  ·obtain ⟨h1, h2⟩ := findA_get (i + 1) h
   refine ⟨by omega, ?_⟩
   rw [show j - i = (j - (i + 1)) + 1 by omega]
   simpa using h2
  ·cases h
theorem check1 {t : TypeId} (h : keyT1 P t = true) (empty : Bool) (m : Nat) (v : Value) (w : World) : (Instr.checkKey empty (m + 1) t v).run P w = .ok () w := by
 unfold keyT1 at h
 unfold Instr.checkKey
 split at h
 ·rename_i k hu; simp [run_underlying hu]
 ·rename_i hu; simp [run_underlying hu]
 ·rename_i hu; simp [run_underlying hu]
 ·cases h
theorem checkF {xs : List AV} {cx : List Value} (hr : ListRel C xs none 0 cx) (hf : ∀ x ∈ cx, flat x) (empty : Bool) (m : Nat) (w : World) : ∀ (fs : List Field), keyF P xs fs = true →
  (forIn fs PUnit.unit fun (f : Field) (_ : PUnit) => (do
   if f.name ≠ "_" then Instr.checkKey empty (m + 1) f.type (← part f.type cx.toArray f.offset)
   pure (ForInStep.yield PUnit.unit) : Sem (ForInStep PUnit))).run P w = .ok () w
 | [], _ => rfl
 | f :: fs, h => by
  simp only [keyF, Bool.and_eq_true, bne_iff_ne, ne_eq] at h
  obtain ⟨⟨⟨h1, h2⟩, h3⟩, h4⟩ := h
  obtain ⟨v, hv⟩ := Option.isSome_iff_exists.1 h3
  obtain ⟨c, hc, _⟩ := part_run w hr hf f.offset hv
  have ih := checkF hr hf empty m w fs h4
  rw [List.forIn_cons, Sem.run_bind]
  have e : (do
   if f.name ≠ "_" then Instr.checkKey empty (m + 1) f.type (← part f.type cx.toArray f.offset)
   pure (ForInStep.yield PUnit.unit) : Sem (ForInStep PUnit)).run P w = .ok (.yield PUnit.unit) w := by
   simp [h1, hc, check1 h2]
  simp only [bind] at e ⊢
  rw [e]
  exact ih
theorem check_run {t : TypeId} {k : AV} {c : Value} (h : keyOK P t k = true) (hk : VRel C k none c) (empty : Bool) (w : World) : (Instr.checkKey empty 10000 t c).run P w = .ok () w := by
 unfold keyOK at h
 split at h
 ·rename_i fs xs hu
  simp only [VRel] at hk
  obtain ⟨cx, rfl, hf, hr⟩ := hk
  unfold Instr.checkKey
  have := checkF hr hf empty 9998 w fs.toList h
  rw [Sem.run_bind, run_underlying hu]
  simpa [← Array.forIn_toList] using this
 ·exact check1 h empty 9999 c w
def FoundRel (C : Ctx) : Option (Nat × AV × AV) → Option (Nat × Value) → Prop
 | none, none => True
 | some (i, _, v), some (j, c) => i = j ∧ VRel C v none c
 | _, _ => False
theorem ba_beq (a b : ByteArray) : (a == b) = (a.data.toList == b.data.toList) := by
 cases a with | mk x => cases b with | mk y =>
 show (x == y) = (x.toList == y.toList)
 rw [Bool.eq_iff_iff, beq_iff_eq, beq_iff_eq]
 exact ⟨fun h => by rw [h], fun h => Array.ext' h⟩
theorem same_eq {t : TypeId} {d : TypeDesc} (hu : P.underlying t = some d) {k k' : AV} {c c' : Value} {b r : Bool} (hk : VRel C k none c) (hk' : VRel C k' none c') (h : Instr.sameNow d c c' = some b) (he : eqA P Op.maxDepth t k k' = some r) : b = r := by
 rw [show Op.maxDepth = (Op.maxDepth - 1) + 1 from rfl] at he
 unfold eqA at he
 rw [hu] at he
 unfold Instr.sameNow at h
 split at h
 ·split at he <;> try cases he
  all_goals simp_all [VRel]
 ·rename_i a b'
  split at he <;> try cases he
  all_goals first
   | (simp only [VRel] at hk hk'; obtain ⟨_, e1, rfl⟩ := hk; obtain ⟨_, e2, rfl⟩ := hk'; cases e1; cases e2; cases h; exact ba_beq _ _)
   | simp_all [VRel]
 ·split at he <;> try cases he
  all_goals simp_all [VRel]
 ·cases h
theorem findNow_run {t : TypeId} {d : TypeDesc} (hu : P.underlying t = some d) {k : AV} {c : Value} (hk : VRel C k none c) : ∀ {es : List (AV × AV)} {ces : List MapEntry}, MapRel C es ces → ∀ (i : Nat) {r : Option (Nat × Value)} {ra : Option (Nat × AV × AV)},
  Instr.findNow d c ces i = some r → findA P t k es i = some ra → FoundRel C ra r
 | [], [], _, i, r, ra, h, ha => by
  simp only [Instr.findNow, findA, Option.some.injEq] at h ha
  subst h ha; trivial
 | (k', v) :: es, e :: ces, ⟨h1, h2, h3⟩, i, r, ra, h, ha => by
  unfold Instr.findNow at h
  unfold findA at ha
  split at h
  ·rename_i hs
   cases h
   split at ha
   ·cases ha; exact ⟨rfl, h2⟩
   ·rename_i he; have := same_eq hu hk h1 hs he; cases this
   ·cases ha
  ·rename_i hs
   split at ha
   ·rename_i he; have := same_eq hu hk h1 hs he; cases this
   ·exact findNow_run hu hk h3 (i + 1) h ha
   ·cases ha
  ·cases h
 | [], _ :: _, h, _, _, _, _, _ => h.elim
 | _ :: _, [], h, _, _, _, _, _ => h.elim
theorem findAsking_run (hF : Fine P) {t : TypeId} {k : AV} {c : Value} (hk : VRel C k none c) (w : World) : ∀ {es : List (AV × AV)} {ces : List MapEntry}, MapRel C es ces → ∀ (i : Nat) {ra : Option (Nat × AV × AV)},
  findA P t k es i = some ra → ∃ r, (Instr.findAsking t c ces i).run P w = .ok r w ∧ FoundRel C ra r
 | [], [], _, i, ra, ha => by
  simp only [findA, Option.some.injEq] at ha
  subst ha
  exact ⟨none, rfl, trivial⟩
 | (k', v) :: es, e :: ces, ⟨h1, h2, h3⟩, i, ra, ha => by
  unfold findA at ha
  unfold Instr.findAsking
  split at ha
  ·rename_i he
   cases ha
   refine ⟨some (i, e.val), ?_, rfl, h2⟩
   simp [eq_run_eql hF w hk h1 he]
  ·rename_i he
   obtain ⟨r, hr, hf⟩ := findAsking_run hF hk w h3 (i + 1) ha
   refine ⟨r, ?_, hf⟩
   simp [eq_run_eql hF w hk h1 he, hr]
  ·cases ha
 | [], _ :: _, h, _, _, _ => h.elim
 | _ :: _, [], h, _, _, _ => h.elim
theorem find_run (hF : Fine P) {t : TypeId} {d : TypeDesc} (hu : P.underlying t = some d) {k : AV} {c : Value} (hk : VRel C k none c) (w : World) {es : List (AV × AV)} {ces : List MapEntry} (hm : MapRel C es ces) {ra : Option (Nat × AV × AV)}
  (ha : findA P t k es 0 = some ra) : ∃ r, (Instr.findKey t c ces).run P w = .ok r w ∧ FoundRel C ra r := by
 unfold Instr.findKey
 rw [Sem.run_bind, run_underlying hu]
 cases hn : Instr.findNow d c ces 0 with
 | some r => exact ⟨r, by simp [hn], findNow_run hu hk hm 0 hn ha⟩
 | none =>
  obtain ⟨r, h1, h2⟩ := findAsking_run hF hk w hm 0 ha
  exact ⟨r, by simp [hn, h1], h2⟩
theorem keyOK_u {t : TypeId} {k : AV} (h : keyOK P t k = true) : ∃ d, P.underlying t = some d := by
 unfold keyOK at h
 split at h
 ·rename_i hu; exact ⟨_, hu⟩
 ·unfold keyT1 at h
  split at h <;> first | (rename_i hu; exact ⟨_, hu⟩) | cases h
theorem run_getO {w : World} {b : Nat} {o : Go.Obj} (hc : isCellsO o = false) (h : w.heap[b]? = some o) : (getObj b).run P w = .ok o w := by
 cases o <;> first | (simp [isCellsO] at hc; done) | simp [getObj, Sem.run, h]
theorem run_setO {w : World} {b : Nat} {x : Go.Obj} (o : Go.Obj) (hc : isCellsO x = false) (h : w.heap[b]? = some x) : (setObj b o).run P w = .ok () { w with heap := w.heap.setIfInBounds b o } := by
 cases x <;> first | (simp [isCellsO] at hc; done) | simp [setObj, Sem.run, h]
theorem zero_run {t : TypeId} {z : AV} (h : zeroA P t = some z) : ∃ c, (∀ w, (zeroValue t).run P w = .ok c w) ∧ VRel C z none c := by
 obtain ⟨i, z0, hi, hz0, rfl, hok⟩ := zeroA_some h
 exact ⟨z0, fun w => by simp [zeroValue, hi, hz0, typeInfo], (ofConst_rel C none z0).1⟩
theorem lookup_run (hF : Fine P) {S : Sto} (hS : HeapRel C S) {t : TypeId} {m k v : AV} {cm ck : Value} {ok : Bool} (hm : VRel C m none cm) (hk : VRel C k none ck) (h : lookA P S t m k ok = some v) :
  ∃ c, (Instr.lookup t cm ck ok).run P C.w = .ok c C.w ∧ VRel C v none c := by
 unfold lookA at h
 split at h
 ·rename_i kt et hu
  split at h
  ·rename_i hko
   obtain ⟨d, hd⟩ := keyOK_u hko
   split at h
   ·rename_i es hes
    have hfa : ∃ ra, findA P kt k es 0 = some ra := by
     split at h
     ·rename_i he; exact ⟨_, he⟩
     ·rename_i he; exact ⟨_, he⟩
     ·cases h
    obtain ⟨ra, hra⟩ := hfa
    rw [hra] at h
    have tail : ∀ (ces : Array MapEntry), MapRel C es ces.toList → ∃ r c, (Instr.checkKey ces.isEmpty 10000 kt ck).run P C.w = .ok () C.w ∧ (Instr.findKey kt ck ces.toList).run P C.w = .ok r C.w ∧ (do
      let (v, o) ← match r with
       | some (_, v) => pure (v, true)
       | none => pure (← zeroValue et, false)
      pure (if ok then .tuple #[v, .bool o] else v) : Sem Value).run P C.w = .ok c C.w ∧ VRel C v none c := by
     intro ces hmr
     obtain ⟨r, hr1, hr2⟩ := find_run hF hd hk C.w hmr hra
     have hck := check_run hko hk ces.isEmpty C.w
     cases ra with
     | none =>
      cases r with
      | some _ => exact hr2.elim
      | none =>
       simp only at h
       cases hz : zeroA P et with
       | none => rw [hz] at h; cases h
       | some z =>
        rw [hz] at h
        obtain ⟨c, hc, hcv⟩ := zero_run (C := C) hz
        simp only [Option.map_some, Option.some.injEq] at h
        cases ok
        ·subst h; exact ⟨none, c, hck, hr1, by simp [hc], hcv⟩
        ·subst h; exact ⟨none, _, hck, hr1, by simp [hc], pair_rel hcv⟩
     | some x =>
      obtain ⟨j, k', v'⟩ := x
      cases r with
      | none => exact hr2.elim
      | some y =>
       obtain ⟨_, c⟩ := y
       obtain ⟨_, hcv⟩ := hr2
       simp only [Option.some.injEq] at h
       cases ok
       ·subst h; exact ⟨_, c, hck, hr1, by simp, hcv⟩
       ·subst h; exact ⟨_, _, hck, hr1, by simp, pair_rel hcv⟩
    unfold mapIn at hes
    split at hes
    ·cases hes
     simp only [VRel] at hm; subst hm
     obtain ⟨r, c, h1, h2, h3, h4⟩ := tail #[] trivial
     refine ⟨c, ?_, h4⟩
     simp only [List.isEmpty_toArray, List.isEmpty_nil, Array.isEmpty_empty] at h1 h2
     unfold Instr.lookup
     simp [run_underlying hu, h1, h2]
     rcases r with _ | ⟨_, _⟩ <;> simpa using h3
    ·rename_i id
     split at hes
     ·rename_i es' hg
      cases hes
      simp only [VRel] at hm
      obtain ⟨rfl, _⟩ := hm
      obtain ⟨_, ⟨ces, clock, h1, h2⟩, _⟩ := hS.get hg
      obtain ⟨r, c, h3, h4, h5, h6⟩ := tail ces h2
      refine ⟨c, ?_, h6⟩
      unfold Instr.lookup
      simp [run_underlying hu, run_getO rfl h1, h3, h4]
      rcases r with _ | ⟨_, _⟩ <;> simpa using h5
     ·cases hes
    ·cases hes
   ·cases h
  ·cases h
 ·cases h
theorem plain1_eq {v : AV} {p q : Option (List Nat)} {c c' : Value} (h : plain1 v = true) (h1 : VRel C v p c) (h2 : VRel C v q c') : c = c' ∧ ∀ n, Instr.sameBits n c c = true := by
 cases v <;> simp only [plain1, VRel] at h h1 h2 <;> try cases h
 ·subst h1 h2; exact ⟨rfl, fun n => by cases n <;> simp [Instr.sameBits]⟩
 ·subst h1 h2; exact ⟨rfl, fun n => by cases n <;> simp [Instr.sameBits]⟩
 ·obtain ⟨a, rfl, ha⟩ := h1
  obtain ⟨b, rfl, hb⟩ := h2
  have : a = b := by cases a; cases b; simp only at ha hb; rw [Array.ext' (ha.trans hb.symm)]
  subst this
  exact ⟨rfl, fun n => by cases n <;> simp [Instr.sameBits, ba_beq]⟩
theorem plainL_eq : ∀ {vs : List AV} {p q : Option (List Nat)} {i j : Nat} {cs cs' : List Value}, vs.all plain1 = true → ListRel C vs p i cs → ListRel C vs q j cs' → cs = cs' ∧ ∀ c ∈ cs, ∀ n, Instr.sameBits n c c = true
 | [], _, _, _, _, _, _, _, h1, h2 => by simp only [ListRel] at h1 h2; subst h1 h2; exact ⟨rfl, by simp⟩
 | v :: vs, _, _, _, _, _, _, h, h1, h2 => by
  simp only [ListRel] at h1 h2
  simp only [List.all_cons, Bool.and_eq_true] at h
  obtain ⟨c, cs, rfl, _, hv, hr⟩ := h1
  obtain ⟨c', cs', rfl, _, hv', hr'⟩ := h2
  obtain ⟨e1, e2⟩ := plain1_eq h.1 hv hv'
  obtain ⟨e3, e4⟩ := plainL_eq h.2 hr hr'
  subst e1 e3
  refine ⟨rfl, fun x hx n => ?_⟩
  rcases List.mem_cons.1 hx with rfl | hx
  ·exact e2 n
  ·exact e4 x hx n
theorem plainK_eq {v : AV} {p q : Option (List Nat)} {c c' : Value} (h : plainK v = true) (h1 : VRel C v p c) (h2 : VRel C v q c') : c = c' ∧ Instr.sameBits 10000 c c = true := by
 by_cases ha : ∃ cs, v = .agg cs
 ·obtain ⟨cs, rfl⟩ := ha
  simp only [plainK] at h
  simp only [VRel] at h1 h2
  obtain ⟨l1, rfl, _, r1⟩ := h1
  obtain ⟨l2, rfl, _, r2⟩ := h2
  obtain ⟨e, e2⟩ := plainL_eq h r1 r2
  subst e
  refine ⟨rfl, ?_⟩
  rw [show (10000 : Nat) = 9999 + 1 from rfl]
  simp only [Instr.sameBits, Bool.and_eq_true, beq_self_eq_true, true_and, List.all_eq_true]
  intro x hx
  have : ∀ (l : List Value) x, x ∈ l.zip l → x.1 = x.2 ∧ x.1 ∈ l := by
   intro l
   induction l with
   | nil => intro x h; cases h
   | cons a l ih =>
    intro x h
    simp only [List.zip_cons_cons, List.mem_cons] at h
    rcases h with rfl | h
    ·exact ⟨rfl, by simp⟩
    ·exact ⟨(ih x h).1, by simp [(ih x h).2]⟩
  obtain ⟨e1, e3⟩ := this _ x hx
  rw [← e1]
  exact e2 _ (by simpa using e3) _
 ·have hp : plain1 v = true := by cases v <;> first | exact absurd ⟨_, rfl⟩ ha | simpa [plainK] using h
  obtain ⟨e1, e2⟩ := plain1_eq hp h1 h2
  exact ⟨e1, e2 _⟩
theorem makeMap_fin {d : Nat} {env : List AV} {tmps : Array Value} {S : Sto} {dst : Tmp} (hE : EnvRel C d env tmps) (hS : HeapRel C S) (t : TypeId) :
  FinS P C d env tmps (S.new (.map [])) dst (.map S.next) (Instr.makeMap t none) := by
 let C2 := C.give (.map #[] 0) (fun _ => [1, S.next, 0]) 0 0 0
 have hx : Ext (fun _ => False) C C2 := Ext.give hS.fresh
 have hn : C.n = S.next := hS.n
 have hφ : C2.φ S.next = C.w.heap.size := by show (if S.next = C.n then _ else _) = _; rw [if_pos hn.symm]
 have hL : ∀ j, C2.L C.w.heap.size j = [1, S.next, 0] := by
  intro j
  show (if C.w.heap.size = C.w.heap.size then _ else _) = _
  rw [if_pos rfl]
 refine ⟨.map (some C.w.heap.size), C2, ?_, (hE.mono hx (fun _ _ h => h)).set dst ?_, HeapRel.give hS ?_, hx.weaken (fun _ h => h.elim)⟩
 ·simp [Instr.makeMap]
  rfl
 ·simp only [VRel]
  exact ⟨by rw [hφ], by show S.next < C.n + 1; omega⟩
 ·rw [hn]
  show (∃ ces clock, C2.w.heap[C2.φ S.next]? = _ ∧ _) ∧ _
  rw [hφ]
  exact ⟨⟨#[], 0, alloc_new _ _, trivial⟩, hL⟩
theorem clone_fin {d : Nat} {env : List AV} {tmps : Array Value} {S : Sto} {dst : Tmp} (hE : EnvRel C d env tmps) (hS : HeapRel C S) {id : Nat} {es : List (AV × AV)} (hg : S.get id = some (.map es)) (t : TypeId) :
  FinS P C d env tmps (S.new (.map es)) dst (.iface t (.map S.next)) (Extern.MapsClone.clone #[.iface t (.map (some (C.φ id)))]) := by
 obtain ⟨_, ⟨ces, clock, h1, h2⟩, _⟩ := hS.get hg
 let C2 := C.give (.map ces clock) (fun _ => [1, S.next, 0]) 0 0 0
 have hx : Ext (fun _ => False) C C2 := Ext.give hS.fresh
 have hn : C.n = S.next := hS.n
 have hφ : C2.φ S.next = C.w.heap.size := by show (if S.next = C.n then _ else _) = _; rw [if_pos hn.symm]
 have hL : ∀ j, C2.L C.w.heap.size j = [1, S.next, 0] := by
  intro j
  show (if C.w.heap.size = C.w.heap.size then _ else _) = _
  rw [if_pos rfl]
 refine ⟨.iface t (.map (some C.w.heap.size)), C2, ?_, (hE.mono hx (fun _ _ h => h)).set dst ?_, HeapRel.give hS ?_, hx.weaken (fun _ h => h.elim)⟩
 ·have e : Extern.MapsClone.clone #[.iface t (.map (some (C.φ id)))] = (getObj (C.φ id) >>= fun o => match o with
   | .map entries clock => (newObj (.map entries clock) >>= fun n => pure (.iface t (.map (some n))))
   | _ => stuck "maps.clone: a map expected") := rfl
  rw [e]
  simp [run_getO rfl h1]
  rfl
 ·simp only [VRel]
  exact ⟨_, rfl, by rw [hφ], by show S.next < C.n + 1; omega⟩
 ·rw [hn]
  show (∃ ces clock, C2.w.heap[C2.φ S.next]? = _ ∧ _) ∧ _
  rw [hφ]
  exact ⟨⟨ces, clock, alloc_new _ _, h2.mono hx⟩, hL⟩
theorem clone_find {fn : Func} (h : isCloneF fn = true) : (fn.name == "runtime.NumGoroutine") = false ∧ fn.body.isNone = true ∧ Extern.findNext fn = none ∧ Extern.find fn = some Extern.MapsClone.clone := by
 simp only [isCloneF, Bool.and_eq_true, beq_iff_eq] at h
 obtain ⟨h1, h2, h3⟩ := h
 refine ⟨by rw [h2]; rfl, h1, ?_, ?_⟩
 ·unfold Extern.findNext
  simp only [h2, h3]
  rw [show Extern.allNextRows.lookup "maps.clone" = none by kernel_rfl, show Extern.allNextRows.lookup "" = none by kernel_rfl]
  rfl
 ·unfold Extern.find
  simp only [h2, h3]
  rw [show Extern.allGenericRows.lookup "maps.clone" = none by kernel_rfl, show Extern.allTypedRows.lookup "maps.clone" = none by kernel_rfl, show Extern.allRows.lookup "maps.clone" = some Extern.MapsClone.clone by kernel_rfl]
  rfl
theorem map_set {d : Nat} {env : List AV} {tmps : Array Value} {S : Sto} (hE : EnvRel C d env tmps) (hS : HeapRel C S) {id : Nat} {es es' : List (AV × AV)} (hg : S.get id = some (.map es)) {ces : Array MapEntry} (clock : Nat) (hm : MapRel C es' ces.toList) :
  Out C (C.setO (C.φ id) (.map ces clock)) d env tmps (S.put id (.map es')) := by
 obtain ⟨hid, ⟨c0, k0, h1, h2⟩, h3⟩ := hS.get hg
 have hxx : Ext (fun l => l = [1, id, 0]) C (C.setO (C.φ id) (.map ces clock)) := Ext.setO h1 rfl (fun j => ⟨h3 j, by rw [h3 j]; simp [froz]⟩)
 have hlt' := (Array.getElem?_eq_some_iff.1 h1).1
 refine ⟨hE.mono hxx (fun _ _ h => by simp at h), hS.put hg hxx rfl (fun i r hne e => by simp at e; exact hne e.1) (setO_fresh hS.fresh) ?_, hxx.weaken (fun l hl => by subst hl; exact ⟨1, [id, 0], rfl, .inl rfl⟩)⟩
 refine ⟨⟨ces, clock, ?_, hm.mono hxx⟩, h3⟩
 show (C.w.heap.setIfInBounds (C.φ id) _)[C.φ id]? = _
 rw [Array.getElem?_setIfInBounds_self_of_lt hlt']
theorem mapPut_ok (hF : Fine P) {d : Nat} {env : List AV} {tmps : Array Value} {st st' : St} (hE : EnvRel C d env tmps) (hS : HeapRel C st.S) {t : TypeId} {m k v u : AV} {cm ck cv : Value} (hm : VRel C m none cm) (hk : VRel C k none ck) (hv : VRel C v none cv)
  (h : mapPutS P t m k v st = some (.val u st')) : ∃ C' S', (Instr.mapUpdate t cm ck cv).run P C.w = .ok () C'.w ∧ Out C C' d env tmps S' ∧ st' = { st with S := S' } ∧ u = .undef := by
 unfold mapPutS at h
 split at h
 ·rename_i kt et id hu
  split at h
  ·rename_i hko
   obtain ⟨dd, hd⟩ := keyOK_u hko
   split at h
   ·rename_i es hg
    split at h
    ·rename_i ra hra
     cases hp : putA es k v ra with
     | none => rw [hp] at h; cases h
     | some es' =>
      rw [hp] at h
      cases h
      simp only [VRel] at hm
      obtain ⟨rfl, _⟩ := hm
      obtain ⟨_, ⟨ces, clock, h1, h2⟩, _⟩ := hS.get hg
      obtain ⟨r, hr1, hr2⟩ := find_run hF hd hk C.w h2 hra
      have hck := check_run hko hk false C.w
      unfold putA at hp
      cases ra with
      | none =>
       cases r with
       | some _ => exact hr2.elim
       | none =>
        simp only [Option.some.injEq] at hp
        subst hp
        have hm' : MapRel C (es ++ [(k, v)]) (ces.push { key := ck, val := cv, born := clock }).toList := by
         rw [Array.toList_push]; exact h2.push hk hv
        refine ⟨_, _, ?_, map_set hE hS hg (clock + 1) hm', rfl, rfl⟩
        simp [Instr.mapUpdate, run_underlying hu, run_getO rfl h1, hck, hr1, run_setO _ rfl h1, Ctx.setO]
      | some x =>
       obtain ⟨j, k', v'⟩ := x
       cases r with
       | none => exact hr2.elim
       | some y =>
        obtain ⟨j', c⟩ := y
        obtain ⟨rfl, hcv⟩ := hr2
        simp only at hp
        split at hp
        ·rename_i hs
         rw [Bool.and_eq_true] at hs
         cases hp
         have hkk := AV.same_eq _ _ hs.2
         subst hkk
         obtain ⟨e0, he0, hek⟩ : ∃ e, ces[j]? = some e ∧ VRel C k' none e.key := by
          obtain ⟨_, q2⟩ := findA_get 0 hra
          obtain ⟨e, q3, q4, _⟩ := h2.get j (by simpa using q2)
          exact ⟨e, by simpa using q3, q4⟩
         obtain ⟨e1, e2⟩ := plainK_eq hs.1 hek hk
         have hm' : MapRel C (es.set j (k', v)) (ces.modify j fun e => { e with key := ck, val := cv }).toList := by
          rw [Array.toList_modify]
          exact h2.modify j fun e _ => ⟨hk, hv⟩
         refine ⟨_, _, ?_, map_set hE hS hg clock hm', rfl, rfl⟩
         simp [Instr.mapUpdate, run_underlying hu, run_getO rfl h1, hck, hr1, run_setO _ rfl h1, Ctx.setO, he0, Instr.keyThatStays, e1, e1 ▸ e2]
        ·cases hp
    ·cases h
   ·cases h
  ·cases h
 ·cases h
theorem mapDel_ok (hF : Fine P) {d : Nat} {env : List AV} {tmps : Array Value} {st st' : St} (hE : EnvRel C d env tmps) (hS : HeapRel C st.S) {t ty : TypeId} {ts : Array TypeId} (ht : ts[0]? = some t) {m k u : AV} {cm ck : Value} (hm : VRel C m none cm) (hk : VRel C k none ck)
  (h : mapDelS P t m k st = some (.val u st')) : ∃ C' S', (Builtin.delete_ ts ty #[cm, ck]).run P C.w = .ok (.tuple #[]) C'.w ∧ Out C C' d env tmps S' ∧ st' = { st with S := S' } ∧ u = .undef := by
 unfold mapDelS at h
 split at h
 ·rename_i kt et id hu
  split at h
  ·rename_i hko
   obtain ⟨dd, hd⟩ := keyOK_u hko
   split at h
   ·rename_i es hg
    cases hra : findA P kt k es 0 with
    | none => rw [hra] at h; cases h
    | some ra =>
     rw [hra] at h
     cases h
     simp only [VRel] at hm
     obtain ⟨rfl, _⟩ := hm
     obtain ⟨_, ⟨ces, clock, h1, h2⟩, _⟩ := hS.get hg
     obtain ⟨r, hr1, hr2⟩ := find_run hF hd hk C.w h2 hra
     have hck := check_run hko hk ces.isEmpty C.w
     cases ra with
     | none =>
      cases r with
      | some _ => exact hr2.elim
      | none =>
       refine ⟨_, _, ?_, map_set hE hS hg clock h2, rfl, rfl⟩
       simp [Builtin.delete_, ht, run_underlying hu, run_getO rfl h1, hck, hr1, run_setO _ rfl h1, Ctx.setO]
     | some x =>
      obtain ⟨j, k', v'⟩ := x
      cases r with
      | none => exact hr2.elim
      | some y =>
       obtain ⟨j', c⟩ := y
       obtain ⟨rfl, _⟩ := hr2
       have hm' : MapRel C (es.eraseIdx j) (ces.eraseIdxIfInBounds j).toList := by
        rw [Array.toList_eraseIdxIfInBounds]
        exact h2.erase j
       refine ⟨_, _, ?_, map_set hE hS hg clock hm', rfl, rfl⟩
       simp [Builtin.delete_, ht, run_underlying hu, run_getO rfl h1, hck, hr1, run_setO _ rfl h1, Ctx.setO]
   ·cases h
  ·cases h
 ·cases h
theorem mapPutS_val {t : TypeId} {m k v : AV} {st : St} {r : OR} (h : mapPutS P t m k v st = some r) : ∃ u st', r = .val u st' := by
 unfold mapPutS at h
 split at h
 ·split at h
  ·split at h
   ·split at h
    ·rename_i ra _
     cases hp : putA ‹_› k v ra with
     | none => rw [hp] at h; cases h
     | some es' => rw [hp] at h; cases h; exact ⟨_, _, rfl⟩
    ·cases h
   ·cases h
  ·cases h
 ·cases h
theorem mapDelS_val {t : TypeId} {m k : AV} {st : St} {r : OR} (h : mapDelS P t m k st = some r) : ∃ u st', r = .val u st' := by
 unfold mapDelS at h
 split at h
 ·split at h
  ·split at h
   ·rename_i es _
    cases hp : findA P _ k es 0 with
    | none => rw [hp] at h; cases h
    | some ra => rw [hp] at h; cases h; exact ⟨_, _, rfl⟩
   ·cases h
  ·cases h
 ·cases h
end Go.Ab
namespace Go.Ab
variable {P : Program} {C : Ctx} {n : Nat}
abbrev ev (tmps : Array Value) : Operand → Value := Act.eval { tmps, defers := [] }
theorem adr_any {d : Nat} {env : List AV} {tmps : Array Value} (h : EnvRel C d env tmps) (x : Operand) : ∃ s, VRel C (adr env x) (some [d + 2, s]) (ev tmps x) := by
 cases x with
 | tmp t =>
  have hv := h.getD t
  cases he : env.getD t .undef with
  | box cs =>
   have ha : adr env (.tmp t) = .lptr t 0 := by simp only [adr, he]
   exact ⟨t, adr_rel h [] (.tmp t) t (by rw [ha]; rfl)⟩
  | _ => exact ⟨t, by simp only [adr, he] at hv ⊢; exact hv⟩
 | _ => exact ⟨0, by simp [adr, VRel]⟩
theorem opd_list {d : Nat} {env : List AV} {tmps : Array Value} (h : EnvRel C d env tmps) (p : Option (List Nat)) : ∀ (xs : List Operand) (i : Nat), ListRel C (xs.map (opd env)) p i (xs.map (ev tmps))
 | [], _ => by simp [ListRel]
 | x :: xs, i => by
  simp only [List.map_cons, ListRel]
  exact ⟨_, _, rfl, (opd_rel h [] x none).2, (opd_rel h [] x _).1, opd_list h p xs (i + 1)⟩
theorem parts_rel {d : Nat} {env : List AV} {tmps : Array Value} (h : EnvRel C d env tmps) : ∀ (ps : List (Nat × Operand)), PartsRel C (ps.map fun p => (p.1, opd env p.2)) (ps.map fun p => (p.1, ev tmps p.2))
 | [] => by simp [PartsRel]
 | p :: ps => by
  simp only [List.map_cons, PartsRel]
  exact ⟨trivial, (opd_rel h [] p.2 none).1, parts_rel h ps⟩
theorem opt_got {d : Nat} {env : List AV} {tmps : Array Value} (h : EnvRel C d env tmps) (x : Operand) : (∃ t ∈ tmpsOf [x], VRel C (opt env x) (some [d + 2, t]) (ev tmps x) ∧ isPl (opt env x) = false) ∨ VRel C (opt env x) none (ev tmps x) := by
 cases x with
 | tmp t => exact .inl ⟨t, by simp [tmpsOf], opt_rel h [] t⟩
 | const v => exact .inr (opd_rel h [] (.const v) none).1
 | global g => exact .inr (opd_rel h [] (.global g) none).1
 | func f => exact .inr (opd_rel h [] (.func f) none).1
theorem Got.of {d : Nat} {cons : List Tmp} {dst : Tmp} {v : AV} {c : Value} (h : (∃ t ∈ cons, VRel C v (some [d + 2, t]) c ∧ isPl v = false) ∨ VRel C v none c) : Got C d cons dst v c := by
 rcases h with ⟨t, ht, h, hp⟩ | h
 ·exact Got.from ht h hp
 ·exact Got.plain h
theorem orel {d : Nat} {env : List AV} {tmps : Array Value} (h : EnvRel C d env tmps) (x : Option Operand) : ORel C (x.map (opd env)) (x.map (ev tmps)) := by
 cases x with
 | none => trivial
 | some x => exact (opd_rel h [] x none).1
theorem pure_got (hF : Fine P) {pol : Pol} {f : FuncId} {o : Oper} {d : Nat} {env : List AV} {tmps : Array Value} (hE : EnvRel C d env tmps) {dst : Tmp} (_hd : ∀ t, o.dst = some t → t = dst) {v : AV} (h : pureA P pol f o env = some v) :
  ∃ c, (execOp (ev tmps) o).run P C.w = .ok (.value c) C.w ∧ Got C d (consumed pol f o) dst v c := by
 have val : ∀ {x : Sem Value} {c : Value}, x.run P C.w = .ok c C.w → (do pure (Next.value (← x)) : Sem Next).run P C.w = .ok (.value c) C.w := by
  intro x c hx
  simp [hx]
 have plain : ∀ {x : Sem Value}, execOp (ev tmps) o = (do pure (Next.value (← x)) : Sem Next) → (∃ c, x.run P C.w = .ok c C.w ∧ VRel C v none c) → ∃ c, (execOp (ev tmps) o).run P C.w = .ok (.value c) C.w ∧ Got C d (consumed pol f o) dst v c := by
  intro x hx ⟨c, hc, hv⟩
  exact ⟨c, by rw [hx]; exact val hc, Got.plain hv⟩
 have place : ∀ {x : Sem Value} {s : Nat}, execOp (ev tmps) o = (do pure (Next.value (← x)) : Sem Next) → (∃ c, x.run P C.w = .ok c C.w ∧ VRel C v (some [d + 2, s]) c ∧ isAdr v = true) → ∃ c, (execOp (ev tmps) o).run P C.w = .ok (.value c) C.w ∧ Got C d (consumed pol f o) dst v c := by
  intro x s hx ⟨c, hc, hv, ha⟩
  exact ⟨c, by rw [hx]; exact val hc, Got.here (VRel.adr ha hv)⟩
 have opn : ∀ x, VRel C (opd env x) none (ev tmps x) := fun x => (opd_rel hE [] x none).1
 unfold pureA at h
 cases hop : o.op <;> simp only [hop] at h
 case move x =>
  cases hdst : o.dst with
  | none => rw [hdst] at h; cases h
  | some d0 =>
   rw [hdst] at h
   simp only [Option.some.injEq] at h
   by_cases ht : pol.take f d0 = true
   ·rw [if_pos ht] at h; subst h
    refine ⟨ev tmps x, by simp [execOp, hop], ?_⟩
    have : consumed pol f o = tmpsOf [x] := by simp [consumed, ht, hop, hdst]
    rw [this]
    exact Got.of (opt_got hE x)
   ·rw [if_neg ht] at h; subst h
    exact ⟨ev tmps x, by simp [execOp, hop], Got.plain (opn x)⟩
 case assign x =>
  cases h
  refine ⟨ev tmps x, by simp [execOp, hop], ?_⟩
  have : consumed pol f o = tmpsOf [x] := by simp [consumed, hop]
  rw [this]
  exact Got.of (opt_got hE x)
 case pick c a b =>
  split at h
  ·rename_i cb hc
   cases h
   have hcv := opn c
   rw [hc] at hcv
   simp only [VRel] at hcv
   refine ⟨if cb then ev tmps a else ev tmps b, ?_, Got.plain ?_⟩
   ·simp [execOp, hop, hcv, asBool]
   ·cases cb
    ·exact opn b
    ·exact opn a
  ·cases h
 case build t ps =>
  split at h
  ·rename_i i x hps
   have hcons : consumed pol f o = tmpsOf [x] := by simp [consumed, hop, hps]
   have hpsa : ps = #[(i, x)] := by apply Array.ext'; simpa using hps
   have hex : execOp (ev tmps) o = (do pure (Next.value (← Instr.build t #[(i, ev tmps x)])) : Sem Next) := by simp [execOp, hop, hpsa]
   rw [hcons]
   rcases opt_got hE x with ⟨s, hs, hx, hp⟩ | hx
   ·obtain ⟨c, hc, hg⟩ := build_own hF (dst := dst) hs hx hp h
    exact ⟨c, by rw [hex]; exact val hc, hg⟩
   ·obtain ⟨c, hc, hg⟩ := build_run hF (ps := [(i, opt env x)]) (cps := #[(i, ev tmps x)]) (by simp only [PartsRel]; exact ⟨trivial, hx, trivial⟩) h
    exact ⟨c, by rw [hex]; exact val hc, Got.plain hg⟩
  ·refine plain (x := Instr.build t (ps.map fun (i, x) => (i, ev tmps x))) (by simp [execOp, hop]) (build_run hF ?_ h)
   rw [Array.toList_map]
   exact parts_rel hE ps.toList
 case nilCheck x =>
  obtain ⟨s, hs⟩ := adr_any hE x
  have fin : ∀ u, adr env x = u → isAdr u = true → v = u → ∃ c, (execOp (ev tmps) o).run P C.w = .ok (.value c) C.w ∧ Got C d (consumed pol f o) dst v c := by
   intro u hu ha hv
   subst hv
   rw [hu] at hs
   refine ⟨ev tmps x, ?_, Got.here (VRel.adr ha hs)⟩
   cases v <;> simp [isAdr] at ha <;> simp only [VRel] at hs
   ·simp [execOp, hop, hs.1]
   ·obtain ⟨b, o', hs, _⟩ := hs; simp [execOp, hop, hs]
   ·obtain ⟨d', r, _, hs⟩ := hs; simp [execOp, hop, hs]
   ·simp [execOp, hop, hs.1]
  split at h
  ·rename_i u; cases h; exact fin _ u rfl rfl
  ·rename_i u; cases h; exact fin _ u rfl rfl
  ·rename_i u; cases h; exact fin _ u rfl rfl
  ·rename_i u; cases h; exact fin _ u rfl rfl
  ·rename_i g a b hu
   cases h
   rw [hu] at hs
   refine ⟨ev tmps x, ?_, Got.plain (by simpa only [VRel] using hs)⟩
   simp only [VRel] at hs
   obtain ⟨a', b', hs, _⟩ := hs
   simp [execOp, hop, hs]
  ·rename_i id hu
   cases h
   rw [hu] at hs
   refine ⟨ev tmps x, ?_, Got.plain (by simpa only [VRel] using hs)⟩
   simp only [VRel] at hs
   simp [execOp, hop, hs.1]
  ·cases h
 case binOp op t x y yt =>
  refine plain (x := do eqGuard op t x y (ev tmps x) (ev tmps y); binOp op t (ev tmps x) (ev tmps y)) (by simp [execOp, hop]) ?_
  exact binA_run hF C.w (fun h => h) (opn x) (opn y) h
 case unOp op t x => exact plain (x := Op.unary op (ev tmps x)) (by simp [execOp, hop]) (unA_run C.w (opn x) h)
 case makeInterface t x =>
  split at h
  ·cases h
  ·rename_i dd hni hu
   cases h
   refine plain (x := Instr.makeInterface t (ev tmps x)) (by simp [execOp, hop]) ⟨.iface t (ev tmps x), ?_, ?_⟩
   ·simp only [Instr.makeInterface, Sem.run_bind, run_underlying hu, Result.andThen_ok]
    cases dd <;> first | rfl | exact absurd rfl (hni _)
   ·simp only [VRel]; exact ⟨_, rfl, opn x⟩
  ·cases h
 case makeFunc fn first cap =>
  split at h
  ·cases h
  ·rename_i hy
   cases h
   refine plain (x := Instr.makeFunc fn (first.map (ev tmps)) (cap.map (ev tmps))) (by simp [execOp, hop]) ⟨.func fn (first.map (ev tmps)) (cap.map (ev tmps)), by simp [Instr.makeFunc], ?_⟩
   simp only [VRel]
   refine ⟨first.toList.map (ev tmps), cap.toList.map (ev tmps), ?_, hy, opd_list hE none _ 0, opd_list hE none _ 0⟩
   congr 1 <;> (apply Array.ext'; simp)
 case slice t x lo hi mx =>
  have hcons : consumed pol f o = tmpsOf [x] := by simp [consumed, hop]
  have hex : execOp (ev tmps) o = (do pure (Next.value (← Instr.sliceAt t (ev tmps x) (lo.map (ev tmps)) (hi.map (ev tmps)) (mx.map (ev tmps)))) : Sem Next) := by simp [execOp, hop]
  rw [hcons]
  rcases opt_got hE x with ⟨s, hs, hx, hp⟩ | hx
  ·obtain ⟨c, hc, hg, hpl⟩ := slice_run (P := P) hx (orel hE lo) (orel hE hi) (orel hE mx) h
   exact ⟨c, by rw [hex]; exact val hc, Got.from hs hg hpl⟩
  ·obtain ⟨c, hc, hg, hpl⟩ := slice_run (P := P) (VRel.any _ (some [d + 2, dst]) _ hx) (orel hE lo) (orel hE hi) (orel hE mx) h
   exact ⟨c, by rw [hex]; exact val hc, Got.here hg⟩
 case fieldAddr s x i =>
  obtain ⟨q, hs⟩ := adr_any hE x
  exact place (x := Instr.fieldAt s (ev tmps x) i) (by simp [execOp, hop]) (fieldAddr_run (P := P) hs h)
 case field t x i => exact plain (x := Instr.field t (ev tmps x) i) (by simp [execOp, hop]) (field_run (opn x) h)
 case indexAddr t x i =>
  obtain ⟨q, hs⟩ := adr_any hE x
  exact place (x := Instr.indexAt t (ev tmps x) (ev tmps i)) (by simp [execOp, hop]) (indexAddr_run (P := P) hs (opn i) h)
 case index t x i => exact plain (x := Instr.index t (ev tmps x) (ev tmps i)) (by simp [execOp, hop]) (index_run (opn x) (opn i) h)
 case typeAssert x xt t ok => exact plain (x := Instr.typeAssert (ev tmps x) xt t ok) (by simp [execOp, hop]) (assert_run (opn x) h)
 case extract x i =>
  split at h
  ·rename_i vs hx
   have hv := opn x
   rw [hx] at hv
   simp only [VRel] at hv
   obtain ⟨vs', he, hl⟩ := hv
   obtain ⟨c, hc, _, hvc⟩ := hl.getElem? i v h
   refine plain (x := Instr.extract (ev tmps x) i) (by simp [execOp, hop]) ⟨c, ?_, hvc⟩
   simp [Instr.extract, he, hc]
  ·cases h
 case call c =>
  obtain ⟨callee, args, argTypes⟩ := c
  cases callee with
  | value g => simp at h
  | invoke r m => simp at h
  | builtin b =>
   cases b <;> simp only at h <;> try (exact absurd h (by simp))
   case cap =>
    split at h
    ·rename_i a t ts ha ht
     have haa : args = #[a] := by apply Array.ext'; simpa using ha
     have htt : argTypes[0]? = some t := by rw [← Array.getElem?_toList, ht]; rfl
     refine plain (x := Builtin.cap_ argTypes o.type #[ev tmps a]) (by simp [execOp, hop, resolve, invoke, builtin, haa]) (cap_run htt (opn a) h)
    ·cases h
   case min =>
    cases hal : args.toList with
    | nil => rw [hal] at h; simp [foldA] at h
    | cons a l =>
     rw [hal] at h
     simp only [List.map_cons] at h
     refine plain (x := Builtin.min_ argTypes o.type (args.map (ev tmps))) (by simp [execOp, hop, resolve, invoke, builtin]) ?_
     have : (args.map (ev tmps)).toList = ev tmps a :: l.map (ev tmps) := by rw [Array.toList_map, hal]; rfl
     simp only [Builtin.min_, this]
     exact fold_run (fun x y v cx cy hx hy hv => min2_run hx hy hv) _ _ _ _ 0 _ (opn a) (opd_list hE none l 0) h
   case max =>
    cases hal : args.toList with
    | nil => rw [hal] at h; simp [foldA] at h
    | cons a l =>
     rw [hal] at h
     simp only [List.map_cons] at h
     refine plain (x := Builtin.max_ argTypes o.type (args.map (ev tmps))) (by simp [execOp, hop, resolve, invoke, builtin]) ?_
     have : (args.map (ev tmps)).toList = ev tmps a :: l.map (ev tmps) := by rw [Array.toList_map, hal]; rfl
     simp only [Builtin.max_, this]
     exact fold_run (fun x y v cx cy hx hy hv => max2_run hx hy hv) _ _ _ _ 0 _ (opn a) (opd_list hE none l 0) h
 all_goals exact absurd h (by simp)
end Go.Ab
namespace Go.Ab
variable {P : Program} {C : Ctx} {n : Nat}
def putT (tmps : Array Value) (dst : Option Tmp) (c : Value) : Array Value :=
 match dst with
 | some d => tmps.setIfInBounds d c
 | none => tmps
def LpIn (env : List AV) (pl : List Tmp) : Prop := ∀ (t s off : Nat), env[t]? = some (.lptr s off) → t ∈ pl
theorem LpIn.set {env : List AV} {pl : List Tmp} (h : LpIn env pl) {k : Nat} {v : AV} (hv : isLp v = false ∨ k ∈ pl) : LpIn (env.set k v) pl := by
 intro t s off ht
 rw [List.getElem?_set] at ht
 split at ht
 ·rename_i e
  subst e
  split at ht
  ·cases ht
   rcases hv with hv | hv
   ·simp [isLp] at hv
   ·exact hv
  ·cases ht
 ·exact h t s off ht
theorem strip_lp (v : AV) : isLp v.strip = false := by cases v <;> simp [AV.strip, AV.strip1, AV.strip0, isLp]
theorem LpIn.stripAt {pl : List Tmp} : ∀ (ts : List Tmp) {env : List AV}, LpIn env pl → LpIn (stripAt env ts) pl
 | [], _, h => h
 | _ :: ts, _, h => LpIn.stripAt ts (h.set (.inl (strip_lp _)))
theorem stripAt_length : ∀ (ts : List Tmp) (env : List AV), (stripAt env ts).length = env.length
 | [], _ => rfl
 | t :: ts, env => by simp only [stripAt]; rw [stripAt_length ts]; simp
theorem stripAt_out : ∀ (ts : List Tmp) (env : List AV) (t : Nat), t ∉ ts → (stripAt env ts)[t]? = env[t]?
 | [], _, _, _ => rfl
 | s :: ts, env, t, h => by
  simp only [List.mem_cons, not_or] at h
  simp only [stripAt]
  rw [stripAt_out ts _ t h.2, List.getElem?_set_ne (fun e => h.1 e.symm)]
theorem FinS.puts {d : Nat} {tmps : Array Value} {st' : St} {o : Oper} {v : AV} {x : Sem Value} (h : FinS P C d st'.env tmps st'.S (o.dst.getD tmps.size) v x) :
  ∃ c C', x.run P C.w = .ok c C'.w ∧ EnvRel C' d (st'.puts o.dst v).env (putT tmps o.dst c) ∧ HeapRel C' st'.S ∧ Ext (Deep d) C C' := by
 obtain ⟨c, C', h1, h2, h3, h4⟩ := h
 refine ⟨c, C', h1, ?_, h3, h4⟩
 unfold St.puts putT
 cases hd : o.dst with
 | some d => rw [hd] at h2; exact h2
 | none =>
  rw [hd] at h2
  simp only [Option.getD_none] at h2
  have hl : st'.env.length = tmps.size := by have := h2.1; simpa using this
  rw [List.set_eq_of_length_le (by omega), Array.setIfInBounds, dif_neg (by omega)] at h2
  exact h2
structure OpVal (P : Program) (C : Ctx) (d : Nat) (pl : List Tmp) (o : Oper) (st0 st' : St) (tmps : Array Value) (v : AV) : Prop where
 run : ∃ nxt c C', (execOp (ev tmps) o).run P C.w = .ok nxt C'.w ∧ (nxt = .value c ∨ nxt = .skip ∧ c = undef) ∧ EnvRel C' d (st'.puts o.dst v).env (putT tmps o.dst c) ∧ HeapRel C' st'.S ∧ Ext (Deep d) C C'
 defs : st'.defs = st0.defs
 par : st'.par = st0.par
 lp : LpIn st'.env pl
theorem noPlace_of {env : List AV} {s : Tmp} : ∀ {pl : List Tmp}, noPlaceIn env s pl = true → ∀ (t s' off : Nat), t ∈ pl → env[t]? = some (.lptr s' off) → s' ≠ s
 | [], _, _, _, _, h, _ => by cases h
 | a :: pl, hn, t, s', off, h, he => by
  unfold noPlaceIn at hn
  rw [Bool.and_eq_true] at hn
  rcases List.mem_cons.1 h with rfl | h
  ·intro e
   have hg : env.getD t .undef = .lptr s' off := by simp [List.getD, he]
   rw [hg] at hn
   simp [e] at hn
  ·exact noPlace_of hn.2 t s' off h he
theorem newVar_fin {pol : Pol} {f : FuncId} {d : Nat} {pl : List Tmp} {env : List AV} {tmps : Array Value} {cons : List Tmp} {g : List Nat → List Nat} {st st' : St} {dst : Option Tmp} {cs : List AV} {cc : List Value} {e : TypeId} {v : AV} (q : List Nat)
  (hst : st.env = stripAt env cons) (hE : EnvRel C d env tmps) (hS : HeapRel C st.S) (hlp : LpIn env pl) (hcl : ∀ t ∈ cons, ∀ s off, env[t]? ≠ some (.lptr s off))
  (hq : q = match dst with | some k => if pol.loc f k then [d + 2, k] else [1, st.S.next] | none => [])
  (hg : Good g d cons) (hr : ListRel (C.map g) cs (some q) 1 cc) (hf : ∀ y ∈ cc, flat y) (h : newVarA pol f pl dst cs st = some (.val v st')) :
  ∃ C' c, C'.w = C.w.alloc (.cells cc.toArray e) ∧ c = .pointer (some ⟨C.w.heap.size, 0, none⟩) ∧ EnvRel C' d (st'.puts dst v).env (putT tmps dst c) ∧ HeapRel C' st'.S ∧ Ext (Deep d) C C' ∧ st' = { st with S := st'.S } := by
 unfold newVarA at h
 cases dst with
 | none => cases h
 | some k =>
  simp only at h hq
  split at h
  ·rename_i hl
   rw [if_pos hl] at hq
   split at h
   ·rename_i hnp
    cases h
    subst hq
    obtain ⟨C', h1, h2⟩ := newOwn hg hE hS (e := e) (fun t s off ht => by
     by_cases hc : t ∈ cons
     ·exact absurd ht (hcl t hc s off)
     ·exact noPlace_of hnp t s off (hlp t s off ht) (by rw [hst, stripAt_out _ _ _ hc]; exact ht)) hr hf
    refine ⟨C', _, h1, rfl, ?_, h2.heap, h2.ext, rfl⟩
    simp only [St.puts, putT, hst]
    exact h2.env
   ·cases h
  ·rename_i hl
   rw [if_neg hl] at hq
   cases h
   subst hq
   obtain ⟨C', h1, h2⟩ := newHeap (dst := k) hg hE hS (e := e) hr hf
   refine ⟨C', _, h1, rfl, ?_, h2.heap, h2.ext, rfl⟩
   simp only [St.puts, putT, hst]
   exact h2.env
theorem storeS_ok {d : Nat} {pl : List Tmp} {o : Oper} {st0 : St} {tmps : Array Value} {st' : St} {t : TypeId} {a x : Operand} {v : AV} (hop : o.op = .store t a x) (hE : EnvRel C d st0.env tmps) (hS : HeapRel C st0.S) (hlp : LpIn st0.env pl)
  (h : storeS P t (adr st0.env a) (opt st0.env x) { st0 with env := stripAt st0.env (tmpsOf [x]) } = some (.val v st')) : OpVal P C d pl o st0 st' tmps v := by
 obtain ⟨s, ha⟩ := adr_any hE a
 have fin : ∀ {C' : Ctx} {env' : List AV} {S' : Sto}, (Instr.storeAt t (ev tmps a) (ev tmps x)).run P C.w = .ok () C'.w → Out C C' d env' tmps S' → LpIn env' pl → OpVal P C d pl o st0 { st0 with env := env', S := S' } tmps .undef := by
  intro C' env' S' hr ho hl
  refine ⟨⟨.skip, undef, C', ?_, .inr ⟨rfl, rfl⟩, ?_, ho.heap, ho.ext⟩, rfl, rfl, hl⟩
  ·simp [execOp, hop, hr]
  ·unfold St.puts putT
   cases o.dst with
   | none => exact ho.env
   | some k => exact ho.env.set k (undef_rel _ _)
 unfold storeS at h
 simp only at h
 split at h
 ·rename_i id off hav
  split at h
  ·rename_i cs hg
   cases hw : writeCells P t off cs (opt st0.env x) with
   | none => rw [hw] at h; cases h
   | some cs' =>
    rw [hw] at h; cases h
    rw [hav] at ha
    obtain ⟨C', h1, h2⟩ := storeHeap (ds := []) hE hS ha hg hw
    exact fin h1 h2 (hlp.stripAt _)
  ·cases h
 ·rename_i s' off hav
  split at h
  ·rename_i cs hg
   cases hw : writeCells P t off cs (opt st0.env x) with
   | none => rw [hw] at h; cases h
   | some cs' =>
    rw [hw] at h; cases h
    rw [hav] at ha
    have hg' : st0.env.getD s' .undef = .box cs := by
     by_cases hm : s' ∈ tmpsOf [x]
     ·-- a taken variable is no box
      exfalso
      cases x with
      | tmp k =>
       simp [tmpsOf] at hm; subst hm
       have hlen : (stripAt st0.env [s']).getD s' .undef = .box cs := hg
       simp only [stripAt, List.getD, List.getElem?_set] at hlen
       by_cases hlt : s' < st0.env.length
       ·simp [hlt] at hlen
        cases hv : st0.env[s'] <;> simp [hv, AV.strip, AV.strip1, AV.strip0] at hlen
       ·simp [hlt, AV.undef] at hlen
      | _ => simp [tmpsOf] at hm
     ·simp only [List.getD] at hg ⊢
      rwa [stripAt_out _ _ _ hm] at hg
    obtain ⟨C', h1, h2⟩ := storeOwn (ds := []) hE hS ha hg' hw
    exact fin h1 h2 ((hlp.stripAt _).set (.inl rfl))
  ·cases h
 ·rename_i id r off hav
  split at h
  ·rename_i es rows hg
   split at h
   ·rename_i row hrow
    cases hw : writeCells P t off row (opt st0.env x).strip1 with
    | none => rw [hw] at h; cases h
    | some row' =>
     rw [hw] at h; cases h
     rw [hav] at ha
     obtain ⟨C', h1, h2⟩ := storeArr (ds := []) hE hS ha hg hrow hw
     exact fin h1 h2 (hlp.stripAt _)
   ·cases h
  ·cases h
 ·cases h
theorem loadS_ok {pol : Pol} {f : FuncId} {d : Nat} {pl : List Tmp} {o : Oper} {st0 : St} {tmps : Array Value} {st' : St} {t : TypeId} {a : Operand} {v : AV} (hop : o.op = .load t a) (hE : EnvRel C d st0.env tmps) (hS : HeapRel C st0.S) (hlp : LpIn st0.env pl)
  (h : loadS P pol f o.dst t (adr st0.env a) st0 = some (.val v st')) : OpVal P C d pl o st0 st' tmps v := by
 obtain ⟨s, ha⟩ := adr_any hE a
 unfold loadS at h
 cases hdst : o.dst with
 | none => rw [hdst] at h; cases h
 | some k =>
 rw [hdst] at h
 simp only at h
 have fin : ∀ {C' : Ctx} {c : Value} {v' : AV} {env' : List AV} {S' : Sto}, (Instr.loadAt t (ev tmps a)).run P C.w = .ok c C'.w → Out C C' d (env'.set k v') (tmps.setIfInBounds k c) S' → LpIn env' pl → OpVal P C d pl o st0 { st0 with env := env', S := S' } tmps v' := by
  intro C' c v' env' S' hr ho hl
  refine ⟨⟨.value c, c, C', ?_, .inl rfl, ?_, ho.heap, ho.ext⟩, rfl, rfl, hl⟩
  ·simp [execOp, hop, hr]
  ·simp only [St.puts, putT, hdst]
   exact ho.env
 split at h
 ·split at h
  ·rename_i id off hav
   split at h
   ·rename_i cs hg
    cases hw : takeCells P t off cs with
    | none => rw [hw] at h; cases h
    | some vc =>
     obtain ⟨v1, cs'⟩ := vc
     rw [hw] at h; cases h
     rw [hav] at ha
     obtain ⟨C', c, h1, h2⟩ := takeHeap (dst := k) hE hS ha hg hw
     exact fin h1 h2 hlp
   ·cases h
  ·rename_i s' off hav
   split at h
   ·rename_i cs hg
    split at h
    ·cases h
    ·rename_i hne
     cases hw : takeCells P t off cs with
     | none => rw [hw] at h; cases h
     | some vc =>
      obtain ⟨v1, cs'⟩ := vc
      rw [hw] at h; cases h
      rw [hav] at ha
      obtain ⟨C', c, h1, h2⟩ := takeOwn (dst := k) hE hS ha hg hw hne
      exact fin h1 h2 (hlp.set (.inl rfl))
   ·cases h
  ·cases h
 ·cases hv : loadA P st0.S st0.env t (adr st0.env a) with
  | none => rw [hv] at h; cases h
  | some v1 =>
   rw [hv] at h; cases h
   obtain ⟨c, h1, h2⟩ := load_run hE hS ha hv
   exact fin (C' := C) h1 ⟨hE.set k (VRel.any _ _ _ h2), hS, Ext.refl _ _⟩ hlp
end Go.Ab
namespace Go.Ab
variable {P : Program} {C : Ctx} {n : Nat}
theorem moreA_mono {S : Sto} {e xType : TypeId} {x : AV} {more : List (List AV)} (h : moreA P { heap := [], next := 0 } e xType x = some more) : moreA P S e xType x = some more := by
 unfold moreA at h ⊢
 split at h <;> simp_all
 unfold rowsIn at h ⊢
 split at h
 ·simp [Sto.get, Sto.look] at h
 ·exact h
theorem base_got {d : Nat} {env : List AV} {tmps : Array Value} (hE : EnvRel C d env tmps) (a : Operand) : ∃ t cons, t ∈ cons ∧ stripAt env cons = stripAt env (tmpsOf [a]) ∧ VRel C (opt env a) (some [d + 2, t]) (ev tmps a) := by
 rcases opt_got hE a with ⟨t, ht, h, _⟩ | h
 ·exact ⟨t, _, ht, rfl, h⟩
 ·cases a with
  | tmp t => exact ⟨t, [t], by simp, rfl, VRel.any _ _ _ h⟩
  | _ => exact ⟨env.length, [env.length], by simp, by simp [stripAt, tmpsOf, List.set_eq_of_length_le], VRel.any _ _ _ h⟩
def quiet (o : Oper) : Bool :=
 match o.op with
 | .call { callee := .builtin .recover, .. } | .defer _ => false
 | _ => true
theorem op_val (hF : Fine P) {pol : Pol} {f : FuncId} {d : Nat} {pl : List Tmp} {o : Oper} {st0 st' : St} {tmps : Array Value} {v : AV} (hE : EnvRel C d st0.env tmps) (hS : HeapRel C st0.S) (hlp : LpIn st0.env pl) (hq : quiet o = true)
  (h : opA P pol f pl o st0 = some (.val v st')) : OpVal P C d pl o st0 st' tmps v := by
 have opn : ∀ x, VRel C (opd st0.env x) none (ev tmps x) := fun x => (opd_rel hE [] x none).1
 have val : ∀ {x : Sem Value} {c : Value} {w' : World}, x.run P C.w = .ok c w' → (do pure (Next.value (← x)) : Sem Next).run P C.w = .ok (.value c) w' := by
  intro x c w' hx
  simp [hx]
 have finS : ∀ {x : Sem Value} {env' : List AV} {S' : Sto} {v' : AV}, execOp (ev tmps) o = (do pure (Next.value (← x)) : Sem Next) → LpIn env' pl →
   FinS P C d env' tmps S' (o.dst.getD tmps.size) v' x → OpVal P C d pl o st0 { st0 with env := env', S := S' } tmps v' := by
  intro x env' S' v' hx hl hf
  obtain ⟨c, C', h1, h2, h3, h4⟩ := FinS.puts (st' := { st0 with env := env', S := S' }) hf
  exact ⟨⟨_, c, C', by rw [hx]; exact val h1, .inl rfl, h2, h3, h4⟩, rfl, rfl, hl⟩
 have plainV : ∀ {x : Sem Value} {v' : AV}, execOp (ev tmps) o = (do pure (Next.value (← x)) : Sem Next) → (∃ c, x.run P C.w = .ok c C.w ∧ VRel C v' none c) → OpVal P C d pl o st0 st0 tmps v' := by
  intro x v' hx ⟨c, h1, h2⟩
  exact finS hx hlp ⟨c, C, h1, hE.set _ (VRel.any _ _ _ h2), hS, Ext.refl _ _⟩
 have pureCase : ∀ {v' : AV}, consumed pol f o = consumed pol f o → pureA P pol f o st0.env = some v' → OpVal P C d pl o st0 { st0 with env := stripAt st0.env (consumed pol f o) } tmps v' := by
  intro v' _ hp
  obtain ⟨c, h1, hg⟩ := pure_got hF (dst := o.dst.getD tmps.size) hE (fun t ht => by rw [ht]; rfl) hp
  obtain ⟨C', hw, g1, g2, g3⟩ := got_ok hE hS (Ext.refl _ C) hg
  have hfs : FinS P C d (stripAt st0.env (consumed pol f o)) tmps st0.S (o.dst.getD tmps.size) v' (pure c) := ⟨c, C', by rw [hw]; rfl, g1, g2, g3⟩
  obtain ⟨c', C2, k1, k2, k3, k4⟩ := FinS.puts (st' := { st0 with env := stripAt st0.env (consumed pol f o) }) hfs
  simp only [Sem.run_pure, Result.ok.injEq] at k1
  obtain ⟨rfl, hw2⟩ := k1
  exact ⟨⟨_, c, C2, by rw [← hw2]; exact h1, .inl rfl, k2, k3, k4⟩, rfl, rfl, hlp.stripAt _⟩
 have pureTail : ∀ {ok : Bool}, (if ok = true then (pureA P pol f o st0.env).map fun v => OR.val v { st0 with env := stripAt st0.env (consumed pol f o) } else none) = some (.val v st') → OpVal P C d pl o st0 st' tmps v := by
  intro ok hh
  split at hh
  ·cases hp : pureA P pol f o st0.env with
   | none => rw [hp] at hh; cases hh
   | some v' => rw [hp] at hh; cases hh; exact pureCase rfl hp
  ·cases hh
 unfold opA at h
 cases hop : o.op <;> simp only [hop] at h
 case alloc t =>
  split at h
  ·rename_i z hz
   obtain ⟨i, z0, hi, hz0, hsz, _, hzr, hzf⟩ := zero_plain (C := C) hz
   have hcons : consumed pol f o = [] := by simp [consumed, hop]
   rw [hcons] at h
   obtain ⟨C', c, h1, h2, h3, h4, h5, h6⟩ := newVar_fin (e := t) (cc := z0.cells.toList) (cons := []) (env := st0.env) _ rfl hE hS hlp (by simp) rfl (Good.id d []) (ListRel.any _ _ _ _ _ hzr) hzf h
   subst h2
   refine ⟨⟨_, _, C', ?_, .inl rfl, h3, h4, h5⟩, by rw [h6], by rw [h6], by rw [h6]; exact hlp⟩
   rw [h1]
   simp [execOp, hop, Instr.alloc, zeroValue, hi, hz0, newVar, newRow, typeInfo]
  ·cases h
 case box t x =>
  split at h
  ·rename_i hc
   have hcons : consumed pol f o = tmpsOf [x] := by simp [consumed, hop]
   rw [hcons] at h
   obtain ⟨g, hg, hr, hf⟩ := take_cells (ds := []) hE x (match o.dst with | some k => if pol.loc f k then [d + 2, k] else [1, st0.S.next] | none => []) 1 hc.1
   obtain ⟨C', c, h1, h2, h3, h4, h5, h6⟩ := newVar_fin (st := { st0 with env := stripAt st0.env (tmpsOf [x]) }) (e := t) (env := st0.env) (cons := tmpsOf [x]) _ rfl hE hS hlp (fun k hk s off he => by
    cases x with
    | tmp k' =>
     simp [tmpsOf] at hk; subst hk
     have hx := hc.1
     simp only [opt, List.getD, he, Option.getD_some, AV.clr, okTop] at hx
     cases hx
    | _ => simp [tmpsOf] at hk) rfl hg hr hf h
   subst h2
   refine ⟨⟨_, _, C', ?_, .inl rfl, h3, h4, h5⟩, by rw [h6], by rw [h6], by rw [h6]; exact hlp.stripAt _⟩
   rw [h1]
   simp [execOp, hop, Instr.box, newVar, newRow]
  ·cases h
 case load t a =>
  have hcons : consumed pol f o = [] := by simp [consumed, hop]
  rw [hcons] at h
  exact loadS_ok hop hE hS hlp h
 case store t a x =>
  have hcons : consumed pol f o = tmpsOf [x] := by simp [consumed, hop]
  rw [hcons] at h
  exact storeS_ok hop hE hS hlp h
 case buildSlice t len ps =>
  have hcons : consumed pol f o = [] := by simp [consumed, hop]
  rw [hcons] at h
  split at h
  ·rename_i k v1 hd hb
   obtain ⟨es, rows, rfl, hraw⟩ := buildSlice_raw (P := P) (cps := ps.map fun (i, x) => (i, ev tmps x)) (by rw [Array.toList_map]; exact parts_rel hE ps.toList) hb
   have hex : execOp (ev tmps) o = (do pure (Next.value (← Instr.buildSlice t len (ps.map fun (i, x) => (i, ev tmps x)))) : Sem Next) := by simp [execOp, hop]
   split at h
   ·simp only [asArr, stripAt] at h
    cases h
    obtain ⟨c, C1, hr, hx, hS1, hv⟩ := hraw.arr hS
    exact finS hex hlp ⟨c, C1, hr, (hE.mono hx (fun _ _ h => h)).set _ (VRel.any _ _ _ hv), hS1, hx.weaken (fun _ h => h.elim)⟩
   ·cases h
    exact finS hex hlp (made_fin (cons := []) hE (hraw.made hS))
  ·cases h
 case makeSlice t l c =>
  have hcons : consumed pol f o = [] := by simp [consumed, hop]
  rw [hcons] at h
  split at h
  ·rename_i k v1 hd hb
   obtain ⟨es, rows, rfl, hraw⟩ := makeSlice_raw (P := P) (opn l) (opn c) hb
   have hex : execOp (ev tmps) o = (do pure (Next.value (← Instr.makeSlice t (ev tmps l) (ev tmps c))) : Sem Next) := by simp [execOp, hop]
   split at h
   ·simp only [asArr, stripAt] at h
    cases h
    obtain ⟨c, C1, hr, hx, hS1, hv⟩ := hraw.arr hS
    exact finS hex hlp ⟨c, C1, hr, (hE.mono hx (fun _ _ h => h)).set _ (VRel.any _ _ _ hv), hS1, hx.weaken (fun _ h => h.elim)⟩
   ·cases h
    exact finS hex hlp (made_fin (cons := []) hE (hraw.made hS))
  ·cases h
 case convert src dstT x =>
  have hcons : consumed pol f o = tmpsOf [x] := by simp [consumed, hop]
  rw [hcons] at h
  have hex : execOp (ev tmps) o = (do pure (Next.value (← convert src dstT (ev tmps x))) : Sem Next) := by simp [execOp, hop]
  cases hd : o.dst with
  | none => rw [hd] at h; cases h
  | some k =>
   rw [hd] at h
   simp only at h
   split at h
   ·rename_i v1 hv
    cases h
    exact finS hex (hlp.stripAt _) (convert_fin (cons := tmpsOf [x]) hE hS (opt_got hE x) hv)
   ·split at h
    ·cases h
    ·split at h
     ·rename_i e id es off len hs hdd hx
      split at h
      ·rename_i he
       split at h
       ·rename_i rows hrows
        cases hb : bytesOf? rows with
        | none => rw [hb] at h; cases h
        | some bs =>
         rw [hb] at h; cases h
         have hxv := opn x
         rw [hx] at hxv
         exact finS hex (hlp.stripAt _) (convert_arr (cons := tmpsOf [x]) hE hS hs hdd he hxv hrows hb)
       ·cases h
      ·cases h
     ·cases h
 case range t x =>
  have hcons : consumed pol f o = [] := by simp [consumed, hop]
  rw [hcons] at h
  split at h
  ·rename_i s hu hx
   cases h
   have hxv := opn x
   rw [hx] at hxv
   exact finS (x := Instr.range t (ev tmps x)) (by simp [execOp, hop]) hlp (range_fin hE hS hu hxv)
  ·cases h
 case next x isS =>
  have hcons : consumed pol f o = [] := by simp [consumed, hop]
  rw [hcons] at h
  cases isS with
  | false => exact pureTail (ok := isPure o) (by rw [hcons]; exact h)
  | true =>
   simp only at h
   split at h
   ·rename_i id hx
    have hxv := opn x
    rw [hx] at hxv
    split at h
    ·rename_i s pos hg
     split at h
     ·rename_i hlt
      cases h
      exact finS (x := Instr.next (ev tmps x) true o.type) (by simp [execOp, hop]) hlp (next_more hE hS hxv hg hlt)
     ·rename_i hlt
      cases h
      exact plainV (x := Instr.next (ev tmps x) true o.type) (by simp [execOp, hop]) (next_over hS hxv hg hlt)
    ·cases h
   ·cases h
 case makeMap t r =>
  have hcons : consumed pol f o = [] := by simp [consumed, hop]
  rw [hcons] at h
  cases r with
  | none =>
   cases h
   exact finS (x := Instr.makeMap t none) (by simp [execOp, hop]) hlp (makeMap_fin hE hS t)
  | some r => exact pureTail (ok := isPure o) (by rw [hcons]; exact h)
 case lookup t m k ok =>
  have hcons : consumed pol f o = [] := by simp [consumed, hop]
  rw [hcons] at h
  simp only [show (stripAt st0.env []) = st0.env from rfl] at h
  cases hv : lookA P st0.S t (opd st0.env m) (opd st0.env k) ok with
  | none => rw [hv] at h; cases h
  | some v1 =>
   rw [hv] at h; cases h
   exact plainV (x := Instr.lookup t (ev tmps m) (ev tmps k) ok) (by simp [execOp, hop]) (lookup_run hF hS (opn m) (opn k) hv)
 case mapUpdate t m k x =>
  have hcons : consumed pol f o = [] := by simp [consumed, hop]
  rw [hcons] at h
  obtain ⟨C', S', h1, h2, rfl, rfl⟩ := mapPut_ok hF hE hS (opn m) (opn k) (opn x) h
  refine ⟨⟨.skip, undef, C', by simp [execOp, hop, h1], .inr ⟨rfl, rfl⟩, ?_, h2.heap, h2.ext⟩, rfl, rfl, hlp⟩
  unfold St.puts putT
  cases o.dst with
  | none => exact h2.env
  | some k => exact h2.env.set k (undef_rel _ _)
 case insert t m k x =>
  have hcons : consumed pol f o = [] := by simp [consumed, hop]
  rw [hcons] at h
  obtain ⟨C', S', h1, h2, rfl, rfl⟩ := mapPut_ok hF hE hS (opn m) (opn k) (opn x) h
  refine ⟨⟨.skip, undef, C', by simp [execOp, hop, h1], .inr ⟨rfl, rfl⟩, ?_, h2.heap, h2.ext⟩, rfl, rfl, hlp⟩
  unfold St.puts putT
  cases o.dst with
  | none => exact h2.env
  | some k => exact h2.env.set k (undef_rel _ _)
 case slice t x lo hi mx =>
  split at h
  ·have hcons : consumed pol f o = tmpsOf [x] := by simp [consumed, hop]
   rw [hcons] at h
   obtain ⟨q, hx⟩ := adr_any hE x
   obtain ⟨g1, g2⟩ := sliceF_fin (st := { st0 with env := stripAt st0.env (tmpsOf [x]) }) (cons := tmpsOf [x]) (dst := o.dst.getD tmps.size) (ρ := ev tmps) hE hS hx h
   rw [g2]
   exact finS (x := Instr.sliceAt t (ev tmps x) (lo.map (ev tmps)) (hi.map (ev tmps)) (mx.map (ev tmps))) (by simp [execOp, hop]) (hlp.stripAt _) g1
  ·exact pureTail (ok := true) (by rw [if_pos rfl]; exact h)
 case panic x => split at h <;> cases h
 case defer c => simp [quiet, hop] at hq
 case call c =>
  obtain ⟨callee, args, argTypes⟩ := c
  cases callee with
  | value g =>
   simp only at h
   split at h
   ·rename_i hcl0
    clear hcl0
    have hcons : consumed pol f o = tmpsOf args.toList := by simp [consumed, hop]
    rw [hcons] at h
    unfold cloneA at h
    split at h
    ·rename_i gg t id hargs
     split at h
     ·rename_i fn hfn
      split at h
      ·rename_i hcl
       split at h
       ·rename_i es hg
        cases h
        obtain ⟨c1, c2, c3, c4⟩ := clone_find hcl
        have hlen : args.toList.length = 1 := by have := congrArg List.length hargs; simpa using this
        obtain ⟨y, hy⟩ := List.length_eq_one_iff.1 hlen
        have haa : args = #[y] := by apply Array.ext'; simpa using hy
        rw [hy] at hargs
        have hyv : opd st0.env y = .iface t (.map id) := by simpa using hargs
        have hv := opn y
        rw [hyv] at hv
        simp only [VRel] at hv
        obtain ⟨c', hc1, hc2, hc3⟩ := hv
        subst hc2
        obtain ⟨c, C', k1, k2, k3, k4⟩ := clone_fin (P := P) (dst := o.dst.getD tmps.size) (hE.stripAt (tmpsOf args.toList)) hS hg t
        have hev : ev tmps (.func gg) = .func (.func gg) #[] #[] := rfl
        have hx : execOp (ev tmps) o = (callFunc gg #[ev tmps y] : Sem Next) := by
         simp only [execOp, hop, resolve, hev, Deferred.ofValue, pure_bind, invoke, haa]
         congr 1
         apply Array.ext'
         simp
        obtain ⟨c2', C2, h1, h2, h3, h4⟩ := FinS.puts (P := P) (x := pure c) (st' := { st0 with env := stripAt st0.env (tmpsOf args.toList), S := st0.S.new (.map es) }) ⟨c, C', rfl, k2, k3, Ext.refl _ _⟩
        simp only [Sem.run_pure, Result.ok.injEq] at h1
        obtain ⟨rfl, hw2⟩ := h1
        refine ⟨⟨_, c, C2, ?_, .inl rfl, h2, h3, k4.trans h4⟩, rfl, rfl, hlp.stripAt _⟩
        rw [hx, run_callFunc_extern hfn c1 c2 c3 c4, hc1, k1, ← hw2]
        rfl
       ·cases h
      ·cases h
     ·cases h
    ·cases h
   ·cases hc : calleeA (argsA st0.env args.toList) (opd st0.env g) <;> rw [hc] at h <;> cases h
  | invoke r m => simp only at h; cases hc : invA P m (args.toList.map (opd st0.env)) (opd st0.env r) <;> rw [hc] at h <;> cases h
  | builtin b =>
   cases b
   case recover => simp [quiet, hop] at hq
   case len =>
    have hcons : consumed pol f o = [] := by simp [consumed, hop]
    rw [hcons] at h
    simp only at h
    split at h
    ·rename_i a t ts ha ht
     cases hv : lenA P st0.S t (opd st0.env a) with
     | none => rw [show (stripAt st0.env []) = st0.env from rfl] at h; rw [hv] at h; cases h
     | some v1 =>
      rw [show (stripAt st0.env []) = st0.env from rfl] at h
      rw [hv] at h; cases h
      have haa : args = #[a] := by apply Array.ext'; simpa using ha
      have htt : argTypes[0]? = some t := by rw [← Array.getElem?_toList, ht]; rfl
      exact plainV (x := Builtin.len_ argTypes o.type #[ev tmps a]) (by simp [execOp, hop, resolve, invoke, builtin, haa]) (len_run hS htt (opn a) hv)
    ·cases h
   case delete =>
    have hcons : consumed pol f o = [] := by simp [consumed, hop]
    rw [hcons] at h
    simp only at h
    split at h
    ·rename_i m k t ts ha ht
     have haa : args = #[m, k] := by apply Array.ext'; simpa using ha
     have htt : argTypes[0]? = some t := by rw [← Array.getElem?_toList, ht]; rfl
     obtain ⟨C', S', h1, h2, rfl, rfl⟩ := mapDel_ok (ty := o.type) hF hE hS htt (opn m) (opn k) h
     exact finS (x := Builtin.delete_ argTypes o.type #[ev tmps m, ev tmps k]) (by simp [execOp, hop, resolve, invoke, builtin, haa]) hlp ⟨_, C', h1, h2.env.set _ (undef_rel _ _), h2.heap, h2.ext⟩
    ·cases h
   case copy =>
    have hcons : consumed pol f o = [] := by simp [consumed, hop]
    rw [hcons] at h
    simp only at h
    split at h
    ·rename_i a b t ts ha ht
     have haa : args = #[a, b] := by apply Array.ext'; simpa using ha
     have htt : argTypes[0]? = some t := by rw [← Array.getElem?_toList, ht]; rfl
     obtain ⟨g1, g2⟩ := copy_fin (ty := o.type) (dst := o.dst.getD tmps.size) hE hS htt (opn a) (opn b) h
     rw [g2]
     exact finS (x := Builtin.copy_ argTypes o.type #[ev tmps a, ev tmps b]) (by simp [execOp, hop, resolve, invoke, builtin, haa]) hlp g1
    ·cases h
   case append =>
    simp only at h
    split at h
    ·rename_i k a b sT xT ts hd ha ht
     have hcons : consumed pol f o = tmpsOf [a] := by simp [consumed, hop, ha]
     rw [hcons] at h
     have haa : args = #[a, b] := by apply Array.ext'; simpa using ha
     have hex : execOp (ev tmps) o = (do pure (Next.value (← Builtin.append_ argTypes o.type #[ev tmps a, ev tmps b])) : Sem Next) := by simp [execOp, hop, resolve, invoke, builtin, haa]
     have happ : ∀ w, (Builtin.append_ argTypes o.type #[ev tmps a, ev tmps b]).run P w = (Builtin.append_ #[sT, xT] o.type #[ev tmps a, ev tmps b]).run P w := by
      intro w
      have e0 : argTypes[0]? = some sT := by rw [← Array.getElem?_toList, ht]; rfl
      have e1 : argTypes[1]? = some xT := by rw [← Array.getElem?_toList, ht]; rfl
      unfold Builtin.append_
      simp [e0, e1]
     obtain ⟨t, cons, htc, hstrip, hbase⟩ := base_got hE a
     unfold appendS at h
     split at h
     ·rename_i e hu
      split at h
      ·cases h
      ·rename_i z hz
       split at h
       ·rename_i hzl
        obtain ⟨i, z0, hi, hz0, hsz, _, hzr, hzf⟩ := zero_plain (C := C) hz
        have hzz : ∃ i z0, P.info? e = some i ∧ i.zero = some z0 ∧ z0.cells.size = i.size := ⟨i, z0, hi, hz0, by have := hzr.length; simp at this; omega⟩
        split at h
        ·cases h
        ·rename_i more hm
         have hm' : moreA P st0.S e xT (opd st0.env b) = some more := by
          split at hm
          ·exact moreA_mono hm
          ·exact hm
         have hmore := more_of hS (opn b) hm'
         split at h
         ·obtain ⟨g1, g2⟩ := appHeap_fin (ty := o.type) (dst := o.dst.getD tmps.size) (st := { st0 with env := stripAt st0.env (tmpsOf [a]) }) hE hS htc hu hbase hmore hzz h
          rw [hstrip] at g1
          rw [g2]
          refine finS hex (hlp.stripAt _) ?_
          obtain ⟨c, C', k1, k2⟩ := g1
          exact ⟨c, C', by rw [happ]; exact k1, k2⟩
         ·cases hv : appInline P e (opt st0.env a) more with
          | none => rw [hv] at h; cases h
          | some v1 =>
           rw [hv] at h; cases h
           have g1 := append_fin (ty := o.type) (dst := o.dst.getD tmps.size) hE hS htc hu hbase hmore hzz hv
           refine finS hex (hlp.stripAt _) ?_
           obtain ⟨c, C', k1, k2⟩ := g1
           rw [hstrip] at k2
           exact ⟨c, C', by rw [happ]; exact k1, k2⟩
       ·cases h
     ·cases h
    ·cases h
   all_goals exact pureTail (ok := isPure o) h
 all_goals exact pureTail (ok := isPure o) h
end Go.Ab
namespace Go.Ab
variable {P : Program} {C : Ctx} {n : Nat}
structure FB where
 fn : FuncId
 kind : CallKind
 rnd : Option Nat
 K : FrameMode → List Frame
 head : kind = .deferred → ∃ (c0 : Frame) (r : List Frame), ∀ m : FrameMode, K m = ({ c0 with mode := m } : Frame) :: r
def FB.at (b : FB) (tmps : Array Value) (defers : List Deferred) (todo : List Item) : Frame :=
 { fn := b.fn, tmps, todo, defers, mode := .run, kind := b.kind, roundOf := b.rnd }
def FB.mach (b : FB) (tmps : Array Value) (defers : List Deferred) (todo : List Item) (cm : FrameMode) (w : World) : Machine := lone (b.at tmps defers todo) (b.K cm) w
def ChainRel (C : Ctx) : List APan → List PanicEntry → Prop
 | [], cs => cs = []
 | a :: as, cs => ∃ c cs', cs = c :: cs' ∧ VRel C a.v none c.v ∧ c.recovered = a.recovered ∧ c.goexit = false ∧ ChainRel C as cs'
def ParRel (C : Ctx) (b : FB) : AMode → FrameMode → Prop
 | .none, _ => b.kind = .normal ∧ b.rnd = none
 | .unk, _ => b.kind = .normal ∧ b.rnd.isSome = true
 | .returning, m => b.kind = .deferred ∧ b.rnd = none ∧ m = .returning
 | .panicking ch, m => b.kind = .deferred ∧ b.rnd = none ∧ ∃ cch, m = .panicking cch ∧ ChainRel C ch cch
def DefRel (C : Ctx) : List ADef → List Deferred → Prop
 | [], cs => cs = []
 | ⟨.coll id, args⟩ :: ds, cs => ∃ cs', cs = { target := .collected (C.φ id), args := #[] } :: cs' ∧ args = [] ∧ id < C.n ∧ DefRel C ds cs'
 | ⟨.fn f cap, args⟩ :: ds, cs => ∃ (cap' args' : List Value) (cs' : List Deferred), cs = { target := .fn f cap'.toArray, args := args'.toArray } :: cs' ∧ (∀ l, f ≠ .yield l) ∧ ListRel C cap none 0 cap' ∧ ListRel C args none 0 args' ∧ DefRel C ds cs'
theorem ChainRel.mono {X : List Nat → Prop} {C' : Ctx} (h : Ext X C C') : ∀ {as : List APan} {cs : List PanicEntry}, ChainRel C as cs → ChainRel C' as cs
 | [], _, hr => hr
 | _ :: _, _, ⟨c, cs', e, h1, h2, h3, h4⟩ => ⟨c, cs', e, VRel.mono h _ none _ (Off.none _) (isPl_lp h1.none_lp) h1, h2, h3, h4.mono h⟩
theorem ParRel.mono {X : List Nat → Prop} {C' : Ctx} (h : Ext X C C') {b : FB} : ∀ {m : AMode} {cm : FrameMode}, ParRel C b m cm → ParRel C' b m cm
 | .none, _, hr => hr
 | .unk, _, hr => hr
 | .returning, _, hr => hr
 | .panicking _, _, ⟨h1, h2, cch, h3, h4⟩ => ⟨h1, h2, cch, h3, h4.mono h⟩
theorem DefRel.mono {X : List Nat → Prop} {C' : Ctx} (h : Ext X C C') : ∀ {ds : List ADef} {cs : List Deferred}, DefRel C ds cs → DefRel C' ds cs
 | [], _, hr => hr
 | ⟨.coll id, _⟩ :: _, _, ⟨cs', e, h1, h2, h3⟩ => ⟨cs', by rw [(h.ids id h2).1]; exact e, h1, Nat.lt_of_lt_of_le h2 h.n, h3.mono h⟩
 | ⟨.fn _ _, _⟩ :: _, _, ⟨cap', args', cs', e, hy, h1, h2, h3⟩ => ⟨cap', args', cs', e, hy, ListRel.mono h _ none 0 _ (Off.none _) h1, ListRel.mono h _ none 0 _ (Off.none _) h2, h3.mono h⟩
structure FrRel (C : Ctx) (d : Nat) (b : FB) (st : St) (tmps : Array Value) (defers : List Deferred) (cm : FrameMode) : Prop where
 env : EnvRel C d st.env tmps
 heap : HeapRel C st.S
 defs : DefRel C st.defs defers
 par : ParRel C b st.par cm
section steps
variable {b : FB} {tmps : Array Value} {defers : List Deferred} {k : List Item} {cm : FrameMode} {w : World} {ops : Array Oper} {i : Nat} {rest : List Nat} {o : Oper}
theorem eval_ev (x : Operand) (todo : List Item) : (b.at tmps defers todo).eval x = ev tmps x := by cases x <;> rfl
theorem eval_ev' (todo : List Item) : (b.at tmps defers todo).eval = ev tmps := funext fun x => eval_ev x todo
theorem finish_op (v : Value) (ho : ops[i]? = some o) : (b.at tmps defers (.inRegion ops (i :: rest) :: k)).finish v = b.at (putT tmps o.dst v) defers (.inRegion ops rest :: k) := by
 cases h : o.dst <;> simp [Frame.finish, FB.at, putT, ho, h]
theorem stepG_oper (ho : ops[i]? = some o) (hw : Region.wanted o (yielded ops tmps) = true) (hd : b.rnd = none ∨ ∀ c, o.op ≠ .defer c) :
  stepG P true { frame := b.at tmps defers (.inRegion ops (i :: rest) :: k), callers := b.K cm, status := .running, dying := none } w =
   stepG.apply P true (b.at tmps defers (.inRegion ops (i :: rest) :: k)) (b.K cm) none (execOp (ev tmps) o) w := by
 have he := eval_ev' (b := b) (tmps := tmps) (defers := defers) (.inRegion ops (i :: rest) :: k)
 simp only [FB.at] at he ⊢
 simp only [stepG, stepG.exec, ho, Option.map_some, Option.getD_some, hw, if_true, stepG.oper, Frame.oper?, he]
 split
 ·rename_i l c hr hop
  rcases hd with hd | hd
  ·rw [hd] at hr; cases hr
  ·exact absurd hop (hd c)
 ·rfl
theorem step_value {c : Value} {w' : World} {nxt : Next} (ho : ops[i]? = some o) (hw : Region.wanted o (yielded ops tmps) = true) (hd : b.rnd = none ∨ ∀ c, o.op ≠ .defer c)
  (hr : (execOp (ev tmps) o).run P w = .ok nxt w') (hn : nxt = .value c ∨ nxt = .skip ∧ c = undef) :
  step P (b.mach tmps defers (.inRegion ops (i :: rest) :: k) cm w) = .next (b.mach (putT tmps o.dst c) defers (.inRegion ops rest :: k) cm w') := by
 refine step_lone_go ?_
 rw [stepG_oper ho hw hd, ← finish_op (b := b) (k := k) (rest := rest) (defers := defers) c ho]
 rcases hn with rfl | ⟨rfl, rfl⟩ <;> simp [stepG.apply, hr]
theorem step_unwanted (ho : ops[i]? = some o) (hw : Region.wanted o (yielded ops tmps) = false) :
  step P (b.mach tmps defers (.inRegion ops (i :: rest) :: k) cm w) = .next (b.mach (putT tmps o.dst undef) defers (.inRegion ops rest :: k) cm w) := by
 refine step_lone_go ?_
 rw [← finish_op (b := b) (k := k) (rest := rest) (defers := defers) undef ho]
 simp only [FB.at] at *
 simp [stepG, stepG.exec, ho, hw]
theorem step_regEnd : step P (b.mach tmps defers (.inRegion ops [] :: k) cm w) = .next (b.mach tmps defers k cm w) :=
 step_lone_go (by simp [stepG, stepG.exec, FB.at])
theorem step_defer' {dd : Deferred} {w' : World} (ho : ops[i]? = some o) (hw : Region.wanted o (yielded ops tmps) = true) (hrn : b.rnd = none) (hr : (execOp (ev tmps) o).run P w = .ok (.defer dd) w') :
  step P (b.mach tmps defers (.inRegion ops (i :: rest) :: k) cm w) = .next (b.mach (putT tmps o.dst undef) (dd :: defers) (.inRegion ops rest :: k) cm w') := by
 refine step_lone_go ?_
 rw [stepG_oper ho hw (.inl hrn), ← finish_op (b := b) (k := k) (rest := rest) (defers := dd :: defers) undef ho]
 simp [stepG.apply, hr, FB.at]
theorem step_recover {_v : Value} {_cs' : List Frame} {w' : World} (ho : ops[i]? = some o) (hw : Region.wanted o (yielded ops tmps) = true) (hrn : b.rnd = none) (hr : (execOp (ev tmps) o).run P w = .ok .recover w') :
  step P (b.mach tmps defers (.inRegion ops (i :: rest) :: k) cm w) = .next (match tryRecover (b.at tmps defers (.inRegion ops (i :: rest) :: k)) (b.K cm) with
   | some (v, cs) => lone (b.at (putT tmps o.dst v) defers (.inRegion ops rest :: k)) cs w'
   | none => b.mach (putT tmps o.dst .nilIface) defers (.inRegion ops rest :: k) cm w') := by
 cases ht : tryRecover (b.at tmps defers (.inRegion ops (i :: rest) :: k)) (b.K cm) with
 | none =>
  refine step_lone_go ?_
  rw [stepG_oper ho hw (.inl hrn), ← finish_op (b := b) (k := k) (rest := rest) (defers := defers) .nilIface ho]
  have : (b.at tmps defers (.inRegion ops (i :: rest) :: k)).roundOf = none := hrn
  simp [stepG.apply, hr, this, ht]
 | some x =>
  obtain ⟨v, cs⟩ := x
  refine step_lone_go ?_
  rw [stepG_oper ho hw (.inl hrn), ← finish_op (b := b) (k := k) (rest := rest) (defers := defers) v ho]
  have : (b.at tmps defers (.inRegion ops (i :: rest) :: k)).roundOf = none := hrn
  simp [stepG.apply, hr, this, ht]
theorem step_panic {v : Value} {w' : World} (ho : ops[i]? = some o) (hw : Region.wanted o (yielded ops tmps) = true) (hd : b.rnd = none ∨ ∀ c, o.op ≠ .defer c) (hr : (execOp (ev tmps) o).run P w = .halt (.panic v) w') :
  step P (b.mach tmps defers (.inRegion ops (i :: rest) :: k) cm w) = .next (lone { b.at tmps defers (.inRegion ops (i :: rest) :: k) with mode := .panicking [{ v, recovered := false }] } (b.K cm) w') := by
 refine step_lone_go ?_
 rw [stepG_oper ho hw hd]
 simp [stepG.apply, hr, Frame.raise, FB.at]
theorem step_enter {f : FuncId} {args : Array Value} {w' : World} (ho : ops[i]? = some o) (hw : Region.wanted o (yielded ops tmps) = true) (hd : b.rnd = none ∨ ∀ c, o.op ≠ .defer c) (hr : (execOp (ev tmps) o).run P w = .ok (.enter f args) w') :
  step P (b.mach tmps defers (.inRegion ops (i :: rest) :: k) cm w) = .next (lone (Frame.enter P f args .normal) (b.at tmps defers (.inRegion ops (i :: rest) :: k) :: b.K cm) w') := by
 refine step_lone_go ?_
 rw [stepG_oper ho hw hd]
 simp [stepG.apply, hr, FB.at]
theorem step_round {l : Nat} {f : FuncId} {ts : Array Value} {assign body : Code} {w' : World} (ho : ops[i]? = some o) (hw : Region.wanted o (yielded ops tmps) = true) (hd : b.rnd = none ∨ ∀ c, o.op ≠ .defer c) (hr : (execOp (ev tmps) o).run P w = .ok (.round l f ts assign body) w') :
  step P (b.mach tmps defers (.inRegion ops (i :: rest) :: k) cm w) = .next (lone (Frame.round l f ts assign body .normal) (b.at tmps defers (.inRegion ops (i :: rest) :: k) :: b.K cm) w') := by
 refine step_lone_go ?_
 rw [stepG_oper ho hw hd]
 simp [stepG.apply, hr]
end steps
end Go.Ab
namespace Go.Ab
variable {P : Program} {C : Ctx} {n : Nat}
def tgtSem (C : Ctx) (t : Tgt) (cargs : Array Value) : Sem Next :=
 match t with
 | .func g => callFunc g cargs
 | .yield id => Instr.yield (C.φ id) cargs
def nextFrame (P : Program) (kind : CallKind) : Next → Option Frame
 | .enter f args => some (Frame.enter P f args kind)
 | .round l f ts assign body => some (Frame.round l f ts assign body kind)
 | _ => none
def CallsTo (P : Program) (C : Ctx) (d : Nat) (m0 : Machine) (c : Frame) (cs : List Frame) (e : AEnd) (S' : Sto) : Prop :=
 ∃ C', Ext (Deep d) C C' ∧ HeapRel C' S' ∧ match e with
  | .ret v => isPl v = false ∧ ∃ cv, VRel C' v (some [d + 3]) cv ∧ Steps P m0 (lone (c.finish cv) cs C'.w)
  | .pan ch => ∃ cch, ChainRel C' ch cch ∧ Steps P m0 (lone (c.raise cch) cs C'.w)
def ModeRel (C : Ctx) : AMode → FrameMode → Prop
 | .returning, m => m = .returning
 | .panicking ch, m => ∃ cch, m = .panicking cch ∧ ChainRel C ch cch
 | _, _ => False
def CallsToD (P : Program) (C : Ctx) (d : Nat) (m0 : Machine) (u : Frame) (cs : List Frame) (e : AEnd) (m' : AMode) (S' : Sto) : Prop :=
 ∃ C' um, Ext (Deep d) C C' ∧ HeapRel C' S' ∧ ModeRel C' (match e with | .ret _ => settleA m' | .pan ch => raisedA m' ch) um ∧ Steps P m0 (lone { u with mode := um } cs C'.w)
def Arr (P : Program) (C' : Ctx) (b : FB) (m : Machine) (k : List Item) (tmps : Array Value) (defers : List Deferred) (cm : FrameMode) : AExit → Prop
 | .normal => Steps P m (b.mach tmps defers k cm C'.w)
 | .exit id => ∃ k0, exitTo id k0 = exitTo id k ∧ Steps P m (b.mach tmps defers (.code (.exit id) :: k0) cm C'.w)
 | .goto l => ∃ k0, gotoIn l k0 = gotoIn l k ∧ Steps P m (b.mach tmps defers (.code (.goto l) :: k0) cm C'.w)
 | .ret => ∃ k0, Steps P m (b.mach tmps defers (.code .ret :: k0) cm C'.w)
 | .pan ch => ∃ cch todo, ChainRel C' ch cch ∧ Steps P m (lone { b.at tmps defers todo with mode := .panicking cch } (b.K cm) C'.w)
theorem Arr.of_steps {C' : Ctx} {b : FB} {m m1 : Machine} {k : List Item} {tmps : Array Value} {defers : List Deferred} {cm : FrameMode} {x : AExit} (h : Steps P m m1) (ha : Arr P C' b m1 k tmps defers cm x) : Arr P C' b m k tmps defers cm x := by
 cases x with
 | normal => exact h.trans ha
 | exit id => obtain ⟨k0, h1, h2⟩ := ha; exact ⟨k0, h1, h.trans h2⟩
 | goto l => obtain ⟨k0, h1, h2⟩ := ha; exact ⟨k0, h1, h.trans h2⟩
 | ret => obtain ⟨k0, h2⟩ := ha; exact ⟨k0, h.trans h2⟩
 | pan ch => obtain ⟨c, t, h1, h2⟩ := ha; exact ⟨c, t, h1, h.trans h2⟩
def Goes (P : Program) (C : Ctx) (d : Nat) (b : FB) (m : Machine) (k : List Item) (x : AExit) (st' : St) : Prop :=
 ∃ C' tmps' defers' cm', Ext (Deep d) C C' ∧ FrRel C' d b st' tmps' defers' cm' ∧ ((∃ ch, x = .pan ch) ∨ LpIn st'.env []) ∧ Arr P C' b m k tmps' defers' cm' x
structure HSound (P : Program) (H : Handler) : Prop where
 free : ∀ {g : FuncId} {args : List AV} {S : Sto} {e : AEnd} {S' : Sto}, H.free g = true → H.call (.func g) args S = some (e, S') → ∃ v k, e = .ret v ∧ S' = { heap := S.heap, next := k } ∧ ∀ S2 : Sto, S2.next = S.next → H.call (.func g) args S2 = some (e, { heap := S2.heap, next := k })
 call : ∀ {t : Tgt} {args : List AV} {S : Sto} {e : AEnd} {S' : Sto}, H.call t args S = some (e, S') → ∀ {C : Ctx} {d : Nat} {cargs : List Value}, HeapRel C S → ListRel C args (some [d + 2]) 0 cargs →
  ∃ nxt fr, (tgtSem C t cargs.toArray).run P C.w = .ok nxt C.w ∧ nextFrame P .normal nxt = some fr ∧ ∀ c cs, CallsTo P C d (lone fr (c :: cs) C.w) c cs e S'
 callD : ∀ {g : FuncId} {args : List AV} {m m' : AMode} {S : Sto} {e : AEnd} {S' : Sto}, H.callD g args m S = some (e, m', S') → ∀ {C : Ctx} {d : Nat} {cargs : List Value} {u : Frame}, HeapRel C S → ListRel C args none 0 cargs → ModeRel C m u.mode →
  (callFunc g cargs.toArray).run P C.w = .ok (.enter g cargs.toArray) C.w ∧ ∀ cs, CallsToD P C d (lone (Frame.enter P g cargs.toArray .deferred) (u :: cs) C.w) u cs e m' S'
 code : ∀ {f : FuncId} {round : Option Nat} {c : Code} {st : St} {x : AExit} {st' : St}, H.code f round c st = some (x, st') → ∀ {C : Ctx} {d : Nat} {b : FB} {tmps : Array Value} {defers : List Deferred} {cm : FrameMode}, b.fn = f →
  b.rnd = round.map C.φ → (∀ l, round = some l → l < C.n) → FrRel C d b st tmps defers cm → LpIn st.env [] → ∀ k, Goes P C d b (b.mach tmps defers (.code c :: k) cm C.w) k x st'
def posOf (t : Tmp) : List Operand → Option Nat
 | [] => none
 | .tmp s :: xs => if s = t then some 0 else (posOf t xs).map (· + 1)
 | _ :: xs => (posOf t xs).map (· + 1)
theorem posOf_none {t : Tmp} : ∀ {xs : List Operand}, t ∉ tmpsOf xs → posOf t xs = none
 | [], _ => rfl
 | x :: xs, h => by
  cases x with
  | tmp s =>
   simp [tmpsOf] at h
   have hx := posOf_none (t := t) (xs := xs) (by simpa [tmpsOf] using h.2)
   simp [posOf, Ne.symm h.1, hx]
  | _ =>
   have hx := posOf_none (t := t) (xs := xs) (by simpa [tmpsOf] using h)
   simp [posOf, hx]
theorem posOf_sole {t : Tmp} : ∀ {xs : List Operand} {j : Nat}, (tmpsOf xs).count t = 1 → xs[j]? = some (.tmp t) → posOf t xs = some j
 | [], j, _, h => by simp at h
 | x :: xs, j, hc, h => by
  cases x with
  | tmp s =>
   by_cases hs : s = t
   ·subst hs
    cases j with
    | zero => simp [posOf]
    | succ j =>
     exfalso
     have h0 : (tmpsOf xs).count s = 0 := by
      have e : tmpsOf (.tmp s :: xs) = s :: tmpsOf xs := rfl
      rw [e, List.count_cons_self] at hc
      omega
     have hm : s ∈ tmpsOf xs := List.mem_filterMap.2 ⟨.tmp s, List.mem_of_getElem? (by simpa using h), rfl⟩
     exact absurd (List.count_pos_iff.2 hm) (by omega)
   ·cases j with
    | zero => simp at h; exact absurd h hs
    | succ j =>
     have hc' : (tmpsOf xs).count t = 1 := by
      have e : tmpsOf (.tmp s :: xs) = s :: tmpsOf xs := rfl
      rw [e, List.count_cons_of_ne hs] at hc
      exact hc
     simp [posOf, hs, posOf_sole hc' (by simpa using h)]
  | _ =>
   cases j with
   | zero => simp at h
   | succ j =>
    have hc' : (tmpsOf xs).count t = 1 := by simpa [tmpsOf] using hc
    simp [posOf, posOf_sole hc' (by simpa using h)]
def gA (d k : Nat) (args : List Operand) : List Nat → List Nat
 | a :: t :: r => if a = d + 2 then (match posOf t args with | some i => (d + 3) :: (k + i) :: r | none => a :: t :: r) else a :: t :: r
 | l => l
theorem gA_heap (d k : Nat) (args : List Operand) (r : List Nat) : gA d k args (1 :: r) = 1 :: r := by
 cases r with
 | nil => rfl
 | cons a r => simp only [gA]; rw [if_neg (by omega)]
theorem gA_good (d k : Nat) (args : List Operand) : Good (gA d k args) d (tmpsOf args) := by
 refine ⟨rfl, rfl, gA_heap d k args, fun l hl => ?_, fun t ht r => ?_⟩
 ·match l with
  | [] => rfl
  | [_] => rfl
  | a :: t :: r =>
   simp only [gA]
   rw [if_neg]
   rintro rfl
   exact hl ⟨d + 2, t :: r, rfl, .inr (Nat.le_refl _)⟩
 ·simp only [gA, if_true, posOf_none ht]
theorem gA_at {d k : Nat} {args : List Operand} {t i : Nat} (h : posOf t args = some i) (r : List Nat) : gA d k args ((d + 2) :: t :: r) = (d + 3) :: (k + i) :: r := by
 simp only [gA, if_true, h]
theorem args_rel {d : Nat} {env : List AV} {tmps : Array Value} (hE : EnvRel C d env tmps) (k : Nat) (args : List Operand) : ListRel (C.map (gA d k args)) (argsA env args) (some [d + 3]) k (args.map (ev tmps)) := by
 refine ListRel.mk (by simp [argsA]) (fun j v c hv hc => ?_)
 simp only [argsA, List.getElem?_map] at hv hc
 cases hx : args[j]? with
 | none => rw [hx] at hv; cases hv
 | some x =>
  rw [hx] at hv hc
  simp only [Option.map_some, Option.some.injEq] at hv hc
  subst hv; subst hc
  by_cases hs : sole args x = true
  ·rw [if_pos hs]
   cases x with
   | tmp t =>
    simp only [sole, beq_iff_eq] at hs
    obtain ⟨h1, h2⟩ := opt_rel hE [] t
    refine ⟨h2, ?_⟩
    exact VRel.map (g := gA d k args) rfl _ _ _ _ (.inr ⟨_, _, rfl, rfl, fun r => by simpa using gA_at (posOf_sole hs hx) r⟩) (isPl_lp h2) (fun hb => absurd hb (by simp [isPl_bx h2])) h1
   | _ => simp [sole] at hs
  ·rw [if_neg hs]
   obtain ⟨h1, h2⟩ := opd_rel hE [] x none
   exact ⟨h2, VRel.any _ _ _ (VRel.map (g := gA d k args) rfl _ none none _ (.inl ⟨rfl, rfl⟩) (isPl_lp h2) (fun _ => rfl) h1)⟩
def gR (d dst : Nat) : List Nat → List Nat
 | a :: r => if a = d + 4 then (d + 2) :: dst :: r else a :: r
 | l => l
theorem gR_good (d dst : Nat) : Good (gR d dst) d [] := by
 refine ⟨by simp [gR, froz], rfl, fun r => by simp [gR], fun l hl => ?_, fun t _ r => by simp [gR]⟩
 match l with
 | [] => rfl
 | a :: r =>
  simp only [gR]
  rw [if_neg]
  rintro rfl
  exact hl ⟨d + 4, r, rfl, .inr (by omega)⟩
end Go.Ab
namespace Go.Ab
variable {P : Program} {C : Ctx} {n : Nat}
theorem wanted_rel {d : Nat} {env : List AV} {tmps : Array Value} (hE : EnvRel C d env tmps) {ops : Array Oper} {o : Oper} {r : Bool} (h : wantedA ops o env = some r) : Region.wanted o (yielded ops tmps) = r := by
 unfold wantedA at h
 unfold Region.wanted
 cases hg : o.guard with
 | none => rw [hg] at h; cases h; rfl
 | some jw =>
  obtain ⟨j, want⟩ := jw
  rw [hg] at h
  simp only at h ⊢
  unfold yielded
  cases hd : (ops[j]?).bind (·.dst) with
  | none => rw [hd] at h; cases h; rfl
  | some dd =>
   rw [hd] at h
   simp only [Option.bind_some] at h ⊢
   have hv := hE.getD dd
   split at h
   ·rename_i b hb
    cases h
    rw [hb] at hv
    simp only [VRel] at hv
    have : tmps[dd]? = some (.bool b) := by
     by_cases hlt : dd < tmps.size
     ·have : tmps.getD dd Go.undef = tmps[dd] := by simp [hlt]
      rw [this] at hv
      rw [Array.getElem?_eq_getElem hlt, hv]
     ·have : tmps.getD dd Go.undef = Go.undef := by simp [hlt]
      rw [this] at hv
      simp [Go.undef] at hv
    rw [this]
    cases b <;> cases want <;> rfl
   ·rename_i hb
    cases h
    rw [hb] at hv
    simp only [VRel, ListRel] at hv
    obtain ⟨vs', hv, rfl⟩ := hv
    by_cases hlt : dd < tmps.size
    ·have : tmps.getD dd Go.undef = tmps[dd] := by simp [hlt]
     rw [this] at hv
     rw [Array.getElem?_eq_getElem hlt, hv]
     rfl
    ·rw [Array.getElem?_eq_none (Nat.le_of_not_lt hlt)]
     rfl
   ·cases h
theorem Goes.trans {d : Nat} {b : FB} {m m1 : Machine} {k : List Item} {x : AExit} {st' : St} {C1 : Ctx} (hx : Ext (Deep d) C C1) (hs : Steps P m m1) (h : Goes P C1 d b m1 k x st') : Goes P C d b m k x st' := by
 obtain ⟨C', t, ds, cm, h1, h2, h3, h4⟩ := h
 exact ⟨C', t, ds, cm, hx.trans h1, h2, h3, Arr.of_steps hs h4⟩
theorem left_env {d : Nat} {env : List AV} {tmps : Array Value} {o : Oper} {k : Nat} {v : AV} (h : EnvRel C d (env.set k v) tmps) : EnvRel C d (env.set k (leftA o v)) tmps := by
 unfold leftA
 split
 ·exact h
 ·by_cases hl : isLp v = true
  ·cases v <;> simp [isLp] at hl
   have := h.setA k (v := .unk) (by simp [VRel])
   rwa [List.set_set] at this
  ·have : v.noLp = v := by cases v <;> first | rfl | simp [isLp] at hl
   rwa [this]
theorem left_puts {d : Nat} {st : St} {tmps : Array Value} {o : Oper} {v : AV} (h : EnvRel C d (st.puts o.dst v).env tmps) : EnvRel C d (st.puts o.dst (leftA o v)).env tmps := by
 unfold St.puts at h ⊢
 cases hd : o.dst with
 | none => rw [hd] at h; exact h
 | some k => rw [hd] at h; exact left_env h
theorem left_lp {ops : Array Oper} {i : Nat} {o : Oper} (ho : ops[i]? = some o) {st : St} (h : LpIn st.env (ops.toList.filterMap isPlaceOp)) (v : AV) : LpIn (st.puts o.dst (leftA o v)).env (ops.toList.filterMap isPlaceOp) := by
 unfold St.puts
 cases hd : o.dst with
 | none => exact h
 | some k =>
  refine h.set ?_
  unfold leftA
  split
  ·rename_i t hp
   right
   have hk : t = k := by
    unfold isPlaceOp at hp
    split at hp <;> first | (rw [hd] at hp; exact (Option.some.inj hp).symm) | cases hp
   subst hk
   exact List.mem_filterMap.2 ⟨o, List.mem_of_getElem? (by rw [Array.getElem?_toList]; exact ho), hp⟩
  ·left
   cases v <;> rfl
theorem puts_S (st : St) (dst : Option Tmp) (v : AV) : (st.puts dst v).S = st.S := by cases dst <;> rfl
theorem puts_defs (st : St) (dst : Option Tmp) (v : AV) : (st.puts dst v).defs = st.defs := by cases dst <;> rfl
theorem puts_par (st : St) (dst : Option Tmp) (v : AV) : (st.puts dst v).par = st.par := by cases dst <;> rfl
theorem puts_env {d : Nat} {st : St} {tmps : Array Value} {dst : Option Tmp} {v : AV} {c : Value} (hE : EnvRel C d st.env tmps) (hv : VRel C v none c) : EnvRel C d (st.puts dst v).env (putT tmps dst c) := by
 cases dst with
 | none => exact hE
 | some k => exact hE.set k (VRel.any _ _ _ hv)
theorem wipe_lp : ∀ (pl : List Tmp) {env : List AV}, LpIn env pl → LpIn (wipe env pl) []
 | [], _, h => h
 | t :: pl, env, h => by
  refine wipe_lp pl (env := env.set t .unk) (fun t' s off ht => ?_)
  rw [List.getElem?_set] at ht
  split at ht
  ·split at ht <;> cases ht
  ·rename_i hne
   rcases List.mem_cons.1 (h t' s off ht) with e | hm
   ·exact absurd e.symm hne
   ·exact hm
theorem opA_pan {pol : Pol} {f : FuncId} {pl : List Tmp} {o : Oper} {st0 st' : St} {ch : List APan} (h : opA P pol f pl o st0 = some (.pan ch st')) :
  ∃ x t v, o.op = .panic x ∧ opd st0.env x = .iface t v ∧ ch = [⟨.iface t v, false⟩] ∧ st' = { st0 with env := stripAt st0.env (consumed pol f o) } := by
 have nv : ∀ {ok : Bool} {y : Option AV} {s : St}, (if ok = true then y.map fun v => OR.val v s else none) = some (.pan ch st') → False := by
  intro ok y s hh
  split at hh
  ·cases y <;> cases hh
  ·cases hh
 unfold opA at h
 cases hop : o.op <;> simp only [hop] at h
 case panic x =>
  split at h
  ·rename_i t v hx
   cases h
   exact ⟨x, t, v, rfl, hx, rfl, rfl⟩
  ·cases h
 case makeMap t r =>
  cases r with
  | none => cases h
  | some r => exact (nv h).elim
 case next x isS =>
  cases isS with
  | false => exact (nv h).elim
  | true => simp only at h; (repeat' split at h) <;> simp at h
 case slice t x lo hi mx =>
  split at h
  ·unfold sliceF at h; (repeat' split at h) <;> simp at h
  ·exact (nv (ok := true) (by rw [if_pos rfl]; exact h)).elim
 case defer c => obtain ⟨callee, args, ts⟩ := c; cases callee <;> simp at h <;> (exact absurd h (by simp [isPure, hop]))
 case call c =>
  obtain ⟨callee, args, ts⟩ := c
  cases callee with
  | value g =>
   simp only at h
   split at h
   ·unfold cloneA at h; (repeat' split at h) <;> simp at h
   ·simp at h
  | invoke r m => simp at h
  | builtin b =>
   cases b <;> simp only at h <;> first | exact (nv h).elim | skip
   case copy => unfold copyS at h; (repeat' split at h) <;> simp at h
   case append =>
    unfold appendS appHeap at h
    (repeat' split at h) <;> simp at h
   case len => (repeat' split at h) <;> simp at h
   case delete =>
    split at h
    ·obtain ⟨_, _, e⟩ := mapDelS_val h; cases e
    ·cases h
   case recover => simp at h
 all_goals first
  | exact (nv h).elim
  | (unfold newVarA at h; (repeat' split at h) <;> simp at h)
  | (unfold loadS at h; (repeat' split at h) <;> simp at h)
  | (unfold storeS at h; (repeat' split at h) <;> simp at h)
  | (unfold asArr at h; (repeat' split at h) <;> simp at h)
  | (obtain ⟨_, _, e⟩ := mapPutS_val h; cases e; done)
  | ((repeat' split at h) <;> first | exact (nv h).elim | simp at h)
theorem opA_call {pol : Pol} {f : FuncId} {pl : List Tmp} {o : Oper} {st0 st' : St} {t : Tgt} {as : List AV} (h : opA P pol f pl o st0 = some (.call t as st')) :
  (∃ g args ts, o.op = .call { callee := .value g, args := args, argTypes := ts } ∧ isCl pol g = false ∧ calleeA (argsA st0.env args.toList) (opd st0.env g) = some (t, as) ∧ st' = { st0 with env := stripAt st0.env (tmpsOf args.toList) }) ∨
  ∃ r m args ts, o.op = .call { callee := .invoke r m, args := args, argTypes := ts } ∧ invA P m (args.toList.map (opd st0.env)) (opd st0.env r) = some (t, as) ∧ st' = st0 := by
 have nv : ∀ {ok : Bool} {y : Option AV} {s : St}, (if ok = true then y.map fun v => OR.val v s else none) = some (.call t as st') → False := by
  intro ok y s hh
  split at hh
  ·cases y <;> cases hh
  ·cases hh
 unfold opA at h
 cases hop : o.op <;> simp only [hop] at h
 case panic x => split at h <;> cases h
 case makeMap t r =>
  cases r with
  | none => cases h
  | some r => exact (nv h).elim
 case next x isS =>
  cases isS with
  | false => exact (nv h).elim
  | true => simp only at h; (repeat' split at h) <;> simp at h
 case slice t x lo hi mx =>
  split at h
  ·unfold sliceF at h; (repeat' split at h) <;> simp at h
  ·exact (nv (ok := true) (by rw [if_pos rfl]; exact h)).elim
 case defer c => obtain ⟨callee, args, ts⟩ := c; cases callee <;> simp at h <;> (exact absurd h (by simp [isPure, hop]))
 case call c =>
  obtain ⟨callee, args, ts⟩ := c
  cases callee with
  | value g =>
   simp only at h
   split at h
   ·unfold cloneA at h; (repeat' split at h) <;> simp at h
   rename_i hcl
   cases hc : calleeA (argsA st0.env args.toList) (opd st0.env g) with
   | none => rw [hc] at h; cases h
   | some ta =>
    obtain ⟨t1, as1⟩ := ta
    rw [hc] at h
    cases h
    refine .inl ⟨g, args, ts, rfl, by simpa using hcl, hc, ?_⟩
    simp [consumed, hop]
  | invoke r m =>
   simp only at h
   cases hc : invA P m (args.toList.map (opd st0.env)) (opd st0.env r) with
   | none => rw [hc] at h; cases h
   | some ta =>
    obtain ⟨t1, as1⟩ := ta
    rw [hc] at h
    cases h
    refine .inr ⟨r, m, args, ts, rfl, hc, ?_⟩
    simp [consumed, hop, stripAt]
  | builtin b =>
   cases b <;> simp only at h <;> first | exact (nv h).elim | skip
   case copy => unfold copyS at h; (repeat' split at h) <;> simp at h
   case append =>
    unfold appendS appHeap at h
    (repeat' split at h) <;> simp at h
   case len => (repeat' split at h) <;> simp at h
   case delete =>
    split at h
    ·obtain ⟨_, _, e⟩ := mapDelS_val h; cases e
    ·cases h
   case recover => simp at h
 all_goals first
  | exact (nv h).elim
  | (unfold newVarA at h; (repeat' split at h) <;> simp at h)
  | (unfold loadS at h; (repeat' split at h) <;> simp at h)
  | (unfold storeS at h; (repeat' split at h) <;> simp at h)
  | (unfold asArr at h; (repeat' split at h) <;> simp at h)
  | (obtain ⟨_, _, e⟩ := mapPutS_val h; cases e; done)
  | ((repeat' split at h) <;> first | exact (nv h).elim | simp at h)
theorem VRel.fn_eq {f : Fn} {a b : List AV} {p : Option (List Nat)} {c : Value} (h : VRel C (.fn f a b) p c) : ∃ a' b' : List Value, c = .func f a'.toArray b'.toArray ∧ (∀ l, f ≠ .yield l) ∧ ListRel C a none 0 a' ∧ ListRel C b none 0 b' := by
 simpa only [VRel] using h
theorem callee_rel {d : Nat} {env : List AV} {tmps : Array Value} (hE : EnvRel C d env tmps) {g : Operand} {args : Array Operand} {t : Tgt} {as : List AV} (h : calleeA (argsA env args.toList) (opd env g) = some (t, as)) (type : TypeId) (ts : Array TypeId) :
  ∃ (k : Nat) (cargs : List Value), (do let dd ← resolve (ev tmps) { callee := .value g, args := args, argTypes := ts } type; invoke dd.target dd.args : Sem Next) = tgtSem C t cargs.toArray ∧
   ListRel (C.map (gA d k args.toList)) as (some [d + 3]) 0 cargs := by
 have hg := (opd_rel hE [] g none).1
 unfold calleeA at h
 split at h
 ·rename_i f first cap he
  cases h
  rw [he] at hg
  obtain ⟨a', b', hc, _, ha, hb⟩ := hg.fn_eq
  refine ⟨first.length, a' ++ args.toList.map (ev tmps) ++ b', ?_, ?_⟩
  ·have hc' : ev tmps g = .func (.func f) a'.toArray b'.toArray := hc
   simp only [resolve, hc', Deferred.ofValue, pure_bind, invoke, tgtSem]
   congr 1
   apply Array.ext'
   simp
  ·have hm : ∀ {l : List AV} {i j : Nat} {cl : List Value}, ListRel C l none i cl → ListRel (C.map (gA d first.length args.toList)) l (some [d + 3]) j cl := fun hl =>
    ListRel.any _ _ _ _ _ (ListRel.map rfl _ none none _ _ (.inl ⟨rfl, rfl⟩) hl)
   refine ListRel.append (ListRel.append (hm ha) ?_) (hm hb)
   have := args_rel hE first.length args.toList
   simpa using this
 ·rename_i id he
  cases h
  rw [he] at hg
  simp only [VRel] at hg
  refine ⟨0, args.toList.map (ev tmps), ?_, args_rel hE 0 args.toList⟩
  have hc' : ev tmps g = .func (.yield (C.φ id)) #[] #[] := hg.1
  simp only [resolve, hc', Deferred.ofValue, pure_bind, invoke, tgtSem]
  congr 1
  apply Array.ext'
  simp
 ·cases h
theorem inv_rel {d : Nat} {env : List AV} {tmps : Array Value} (hE : EnvRel C d env tmps) {r : Operand} {m : String} {args : Array Operand} {t : Tgt} {as : List AV} (h : invA P m (args.toList.map (opd env)) (opd env r) = some (t, as)) (type : TypeId) (ts : Array TypeId) (w : World) :
  ∃ cargs : List Value, ((do let dd ← resolve (ev tmps) { callee := .invoke r m, args := args, argTypes := ts } type; invoke dd.target dd.args : Sem Next)).run P w = (tgtSem C t cargs.toArray).run P w ∧ ListRel C as none 0 cargs := by
 have hr := (opd_rel hE [] r none).1
 unfold invA at h
 split at h
 ·rename_i it v he
  split at h
  ·rename_i i e hi hu
   split at h
   ·rename_i mm hm
    split at h
    ·rename_i g hf
     split at h
     ·rename_i hp
      cases h
      rw [he] at hr
      simp only [VRel] at hr
      obtain ⟨cv, hc, hv⟩ := hr
      simp only [Bool.and_eq_true] at hp
      obtain ⟨hp, hok⟩ := hp
      have hpl : isPl v = false := by cases v <;> first | rfl | simp [okTop] at hok
      have hc' : ev tmps r = .iface it cv := hc
      refine ⟨cv :: args.toList.map (ev tmps), ?_, ?_⟩
      ·have hpath : mm.path.toList = [] := by simpa using hp
       have hmeth : ∀ n : Nat, (method (n + 1) it cv m).run P w = .ok (g, cv) w := by
        intro n
        unfold method
        simp [typeInfo, hi, hm, hpath, follow, hf, receiverAt, run_underlying hu, Place.get]
       have hsz : (P.types.size + Made.depth) = (P.types.size + (Made.depth - 1)) + 1 := by unfold Made.depth; omega
       simp only [resolve, pure_bind, invoke]
       have h0 : (#[ev tmps r] ++ args.map (ev tmps))[0]? = some (ev tmps r) := by rw [Array.getElem?_append_left (by simp)]; rfl
       rw [h0]
       simp only [hc', callMethod, tgtSem]
       have e : (#[cv] ++ args.map (ev tmps)) = (cv :: args.toList.map (ev tmps)).toArray := by cases args; simp
       rw [← e]
       have hm2 : (method (P.types.size + Made.depth) it cv m).run P w = .ok (g, cv) w := by rw [hsz]; exact hmeth _
       have hx2 : (args.map (ev tmps)).extract 0 args.size = args.map (ev tmps) := by
        have : args.size = (args.map (ev tmps)).size := by simp
        rw [this, Array.extract_size]
       simp [run_program, hm2, hx2]
      ·rw [show v :: args.toList.map (opd env) = [v] ++ args.toList.map (opd env) from rfl, show cv :: args.toList.map (ev tmps) = [cv] ++ args.toList.map (ev tmps) from rfl]
       refine ListRel.append ?_ (opd_list hE none _ _)
       simp only [ListRel, sub, Option.map_none]
       exact ⟨cv, [], rfl, hpl, hv, rfl⟩
     ·cases h
    ·cases h
   ·cases h
  ·cases h
 ·cases h
theorem call_rel {pol : Pol} {f : FuncId} {d : Nat} {pl : List Tmp} {o : Oper} {st st' : St} {tmps : Array Value} {t : Tgt} {as : List AV} (hE : EnvRel C d st.env tmps) (h : opA P pol f pl o st = some (.call t as st')) (w : World) :
  ∃ (args : List Operand) (k : Nat) (cargs : List Value), st' = { st with env := stripAt st.env (tmpsOf args) } ∧ (∀ c, o.op ≠ .defer c) ∧ (execOp (ev tmps) o).run P w = (tgtSem C t cargs.toArray).run P w ∧ ListRel (C.map (gA d k args)) as (some [d + 3]) 0 cargs := by
 rcases opA_call h with ⟨g, args, ts, hpo, _, hcal, rfl⟩ | ⟨r, m, args, ts, hpo, hinv, rfl⟩
 ·obtain ⟨kk, cargs, hres, hargs⟩ := callee_rel hE hcal o.type ts
  have hnd : ∀ c, o.op ≠ .defer c := by intro c hcc; rw [hpo] at hcc; cases hcc
  refine ⟨args.toList, kk, cargs, rfl, hnd, ?_, hargs⟩
  have : execOp (ev tmps) o = (do let dd ← resolve (ev tmps) { callee := .value g, args := args, argTypes := ts } o.type; invoke dd.target dd.args : Sem Next) := by simp [execOp, hpo]
  rw [this, hres]
 ·obtain ⟨cargs, hres, hargs⟩ := inv_rel hE hinv o.type ts w
  have hnd : ∀ c, o.op ≠ .defer c := by intro c hcc; rw [hpo] at hcc; cases hcc
  refine ⟨[], 0, cargs, rfl, hnd, ?_, ListRel.any _ _ _ _ _ (ListRel.map (g := gA d 0 []) rfl _ none none _ _ (.inl ⟨rfl, rfl⟩) hargs)⟩
  have : execOp (ev tmps) o = (do let dd ← resolve (ev tmps) { callee := .invoke r m, args := args, argTypes := ts } o.type; invoke dd.target dd.args : Sem Next) := by simp [execOp, hpo]
  rw [this]; exact hres
theorem FrRel.puts {d : Nat} {b : FB} {st : St} {tmps : Array Value} {defers : List Deferred} {cm : FrameMode} (hF : FrRel C d b st tmps defers cm) {C' : Ctx} (hx : Ext (Deep d) C C') {st' : St} {o : Oper} {v : AV} {c : Value}
  (hE : EnvRel C' d (st'.puts o.dst v).env (putT tmps o.dst c)) (hS : HeapRel C' st'.S) (hd : st'.defs = st.defs) (hp : st'.par = st.par) : FrRel C' d b (st'.puts o.dst (leftA o v)) (putT tmps o.dst c) defers cm :=
 ⟨left_puts hE, by rw [puts_S]; exact hS, by rw [puts_defs, hd]; exact hF.defs.mono hx, by rw [puts_par, hp]; exact hF.par.mono hx⟩
theorem recover_rel {d : Nat} {b : FB} {st st1 : St} {tmps : Array Value} {defers : List Deferred} {cm : FrameMode} {v : AV} {ops : Array Oper} {i : Nat} {o : Oper} {rest : List Nat} {k : List Item} (hR : FrRel C d b st tmps defers cm)
  (h : Option.map (fun x => OR.val x.1 x.2) (recoverA st) = some (.val v st1)) (ho : ops[i]? = some o) (hw : Region.wanted o (yielded ops tmps) = true) (hr : (execOp (ev tmps) o).run P C.w = .ok .recover C.w) :
  ∃ (cv : Value) (cm1 : FrameMode) (_ : Unit), FrRel C d b (st1.puts o.dst (leftA o v)) (putT tmps o.dst cv) defers cm1 ∧ st1.env = st.env ∧
   step P (b.mach tmps defers (.inRegion ops (i :: rest) :: k) cm C.w) = .next (b.mach (putT tmps o.dst cv) defers (.inRegion ops rest :: k) cm1 C.w) := by
 have nil : recoverA st = some (.niliface, st) → b.rnd = none → tryRecover (b.at tmps defers (.inRegion ops (i :: rest) :: k)) (b.K cm) = none → ∃ (cv : Value) (cm1 : FrameMode) (_ : Unit), FrRel C d b (st1.puts o.dst (leftA o v)) (putT tmps o.dst cv) defers cm1 ∧ st1.env = st.env ∧
   step P (b.mach tmps defers (.inRegion ops (i :: rest) :: k) cm C.w) = .next (b.mach (putT tmps o.dst cv) defers (.inRegion ops rest :: k) cm1 C.w) := by
  intro he hrn ht
  rw [he] at h
  cases h
  refine ⟨.nilIface, cm, (), hR.puts (Ext.refl _ _) (puts_env hR.env (by simp only [VRel])) hR.heap rfl rfl, rfl, ?_⟩
  rw [step_recover (_v := .nilIface) (_cs' := []) ho hw hrn hr, ht]
 have hpar := hR.par
 unfold recoverA at h nil
 cases hp : st.par with
 | none =>
  rw [hp] at hpar
  exact nil (by rw [hp]) hpar.2 (by
   have : (b.at tmps defers (.inRegion ops (i :: rest) :: k)).kind = .normal := hpar.1
   simp [tryRecover, this])
 | unk => rw [hp] at h; cases h
 | returning =>
  rw [hp] at hpar
  obtain ⟨h1, h2, h3⟩ := hpar
  obtain ⟨c0, r, hK⟩ := b.head h1
  refine nil (by rw [hp]) h2 ?_
  have : (b.at tmps defers (.inRegion ops (i :: rest) :: k)).kind = .deferred := h1
  simp [tryRecover, this, hK, h3]
 | panicking ch =>
  rw [hp] at hpar
  obtain ⟨h1, h2, cch, h3, h4⟩ := hpar
  obtain ⟨c0, r, hK⟩ := b.head h1
  have hk : (b.at tmps defers (.inRegion ops (i :: rest) :: k)).kind = .deferred := h1
  cases ch with
  | nil =>
   simp only [ChainRel] at h4
   subst h4
   exact nil (by rw [hp]) h2 (by simp [tryRecover, hk, hK, h3])
  | cons a older =>
   obtain ⟨av, ar⟩ := a
   obtain ⟨c, cs', rfl, g1, g2, g3, g4⟩ := h4
   cases ar with
   | true => exact nil (by rw [hp]) h2 (by
     obtain ⟨cv, cr, cg⟩ := c
     simp only at g2 g3
     subst g2; subst g3
     simp [tryRecover, hk, hK, h3])
   | false =>
    rw [hp] at h
    cases h
    obtain ⟨cv, cr, cg⟩ := c
    simp only at g1 g2 g3
    subst g2; subst g3
    refine ⟨cv, .panicking ({ v := cv, recovered := true } :: cs'), (), ?_, rfl, ?_⟩
    ·exact ⟨left_puts (puts_env hR.env g1), by rw [puts_S]; exact hR.heap, by rw [puts_defs]; exact hR.defs, by
      rw [puts_par]
      exact ⟨h1, h2, _, rfl, _, _, rfl, g1, rfl, rfl, g4⟩⟩
    ·have ht : tryRecover (b.at tmps defers (.inRegion ops (i :: rest) :: k)) (b.K cm) = some (cv, b.K (.panicking ({ v := cv, recovered := true } :: cs'))) := by
      simp [tryRecover, hk, hK, h3]
     rw [step_recover (_v := cv) (_cs' := []) ho hw h2 hr, ht]
     rfl
theorem defer_rel {pol : Pol} {f : FuncId} {pl : List Tmp} {d : Nat} {b : FB} {st st1 : St} {tmps : Array Value} {defers : List Deferred} {cm : FrameMode} {v : AV} {o : Oper} {c : Call} (hR : FrRel C d b st tmps defers cm) (hpo : o.op = .defer c)
  (h : opA P pol f pl o st = some (.val v st1)) :
  ∃ dd, b.rnd = none ∧ (execOp (ev tmps) o).run P C.w = .ok (.defer dd) C.w ∧ v = .undef ∧ st1.env = st.env ∧ st1.S = st.S ∧ FrRel C d b (st1.puts o.dst (leftA o v)) (putT tmps o.dst undef) (dd :: defers) cm := by
 have hcons : consumed pol f o = [] := by simp [consumed, hpo]
 obtain ⟨callee, args, ts⟩ := c
 unfold opA at h
 simp only [hpo, hcons, stripAt] at h
 cases callee with
 | builtin _ => simp [isPure, hpo] at h
 | invoke _ _ => simp [isPure, hpo] at h
 | value g =>
  simp only at h
  cases hd : deferA { st with env := st.env } (opd st.env g) (args.toList.map (opd st.env)) with
  | none => rw [hd] at h; cases h
  | some st2 =>
   rw [hd] at h
   cases h
   unfold deferA at hd
   have hg := (opd_rel hR.env [] g none).1
   have hrn : ∀ {m : AMode}, m = st.par → m ≠ .unk → b.rnd = none := by
    intro m hm hne
    subst hm
    have := hR.par
    cases hp : st.par with
    | none => rw [hp] at this; exact this.2
    | unk => exact absurd hp hne
    | returning => rw [hp] at this; exact this.2.1
    | panicking ch => rw [hp] at this; exact this.2.1
   split at hd
   ·cases hd
   ·rename_i g' first cap he hne
    cases hd
    rw [he] at hg
    obtain ⟨a', b', hc, hy, ha, hb⟩ := hg.fn_eq
    have hc' : ev tmps g = .func (.func g') a'.toArray b'.toArray := hc
    refine ⟨{ target := .fn (.func g') b'.toArray, args := (a' ++ args.toList.map (ev tmps)).toArray }, hrn rfl (fun e => hne e), ?_, rfl, rfl, rfl, ?_⟩
    ·simp [execOp, hpo, resolve, hc', Deferred.ofValue]
    ·refine ⟨left_puts (puts_env hR.env (undef_rel _ _)), by rw [puts_S]; exact hR.heap, ?_, by rw [puts_par]; exact hR.par⟩
     rw [puts_defs]
     exact ⟨b', _, defers, rfl, hy, hb, ListRel.append ha (opd_list hR.env none _ _), hR.defs⟩
   ·cases hd
theorem ops_ok (hF : Fine P) {H : Handler} (hH : HSound P H) {pol : Pol} {f : FuncId} {ops : Array Oper} {d : Nat} {b : FB} {k : List Item} :
  ∀ (l : List Nat) {C : Ctx} {st : St} {x : AExit} {st' : St} {tmps : Array Value} {defers : List Deferred} {cm : FrameMode}, evOps P H pol f ops (ops.toList.filterMap isPlaceOp) l st = some (x, st') →
   FrRel C d b st tmps defers cm → LpIn st.env (ops.toList.filterMap isPlaceOp) → Goes P C d b (b.mach tmps defers (.inRegion ops l :: k) cm C.w) k x st'
 | [], C, st, x, st', tmps, defers, cm, h, hR, hlp => by
  unfold evOps at h
  cases h
  exact ⟨C, tmps, defers, cm, Ext.refl _ _, ⟨hR.env.wipe _, hR.heap, hR.defs, hR.par⟩, .inr (wipe_lp _ hlp), .one step_regEnd⟩
 | i :: rest, C, st, x, st', tmps, defers, cm, h, hR, hlp => by
  unfold evOps at h
  cases ho : ops[i]? with
  | none => rw [ho] at h; cases h
  | some o =>
  rw [ho] at h
  simp only at h
  cases hw : wantedA ops o st.env with
  | none => rw [hw] at h; cases h
  | some wd =>
  rw [hw] at h
  have hwant := wanted_rel hR.env hw
  cases wd with
  | false =>
   simp only at h
   have hR' : FrRel C d b (st.puts o.dst .undef) (putT tmps o.dst undef) defers cm :=
    ⟨puts_env hR.env (undef_rel _ _), by rw [puts_S]; exact hR.heap, by rw [puts_defs]; exact hR.defs, by rw [puts_par]; exact hR.par⟩
   have hlp' : LpIn (st.puts o.dst .undef).env (ops.toList.filterMap isPlaceOp) := by
    unfold St.puts
    cases o.dst with
    | none => exact hlp
    | some q => exact hlp.set (.inl rfl)
   exact (ops_ok hF hH rest h hR' hlp').trans (Ext.refl _ _) (.one (step_unwanted ho hwant))
  | true =>
   simp only at h
   rw [opK_eq] at h
   cases hop : opA P pol f (ops.toList.filterMap isPlaceOp) o st with
   | none => rw [hop] at h; cases h
   | some r =>
   rw [hop] at h
   cases r with
   | val v st1 =>
    simp only at h
    by_cases hq : quiet o = true
    ·obtain ⟨⟨nxt, c, C1, r1, r2, r3, r4, r5⟩, q1, q2, q3⟩ := op_val hF hR.env hR.heap hlp hq hop
     have hR1 : FrRel C1 d b (st1.puts o.dst (leftA o v)) (putT tmps o.dst c) defers cm := hR.puts r5 r3 r4 q1 q2
     have hnd : ∀ c, o.op ≠ .defer c := by intro c hc; simp [quiet, hc] at hq
     exact (ops_ok hF hH rest h hR1 (left_lp ho q3 v)).trans r5 (.one (step_value ho hwant (.inr hnd) r1 r2))
    ·-- recover, defer
     unfold quiet at hq
     split at hq
     ·rename_i args ts hpo
      have hcons : consumed pol f o = [] := by simp [consumed, hpo]
      have hrun : (execOp (ev tmps) o).run P C.w = .ok .recover C.w := by simp [execOp, hpo, resolve, invoke, builtin]
      unfold opA at hop
      simp only [hpo, hcons, stripAt] at hop
      obtain ⟨cv, cm1, st2, hR1, henv, hst⟩ := recover_rel hR hop ho hwant hrun (rest := rest) (k := k)
      refine (ops_ok hF hH rest h hR1 (left_lp ho (by rw [henv]; exact hlp) v)).trans (Ext.refl _ _) (.one hst)
     ·rename_i c hpo
      obtain ⟨dd, hrn, hrun, rfl, henv, hS', hR1⟩ := defer_rel hR hpo hop
      refine (ops_ok hF hH rest h hR1 (left_lp ho (by rw [henv]; exact hlp) _)).trans (Ext.refl _ _) (.one (step_defer' ho hwant hrn hrun))
     ·exact absurd rfl hq
   | pan ch st1 =>
    simp only at h
    cases h
    obtain ⟨y, t, v, hpo, hov, rfl, rfl⟩ := opA_pan hop
    have hv := (opd_rel hR.env [] y none).1
    rw [hov] at hv
    have hv' := hv
    simp only [VRel] at hv
    obtain ⟨v', hc, hvv⟩ := hv
    have hrun : (execOp (ev tmps) o).run P C.w = .halt (.panic (ev tmps y)) C.w := by
     have hc' : ev tmps y = .iface t v' := hc
     simp [execOp, hpo, Instr.panic, hc', goPanic]
    refine ⟨C, tmps, defers, cm, Ext.refl _ _, ⟨hR.env.stripAt _, hR.heap, hR.defs, hR.par⟩, .inl ⟨_, rfl⟩, ?_⟩
    refine ⟨[{ v := ev tmps y, recovered := false }], _, ⟨_, [], rfl, hv', rfl, rfl, rfl⟩, .one (step_panic ho hwant (.inr (by intro c hc; rw [hpo] at hc; cases hc)) hrun)⟩
   | call t as st1 =>
    simp only at h
    cases hc : H.call t as st1.S with
    | none => rw [hc] at h; cases h
    | some eS =>
    obtain ⟨e, S1⟩ := eS
    rw [hc] at h
    obtain ⟨args, kk, cargs, rfl, hnd, hres, hargs⟩ := call_rel hR.env hop C.w
    have hg := gA_good d kk args
    have hS1 := hg.heap hR.heap
    obtain ⟨nxt, fr, hrun, hnf, hcalls⟩ := hH.call hc (C := C.map (gA d kk args)) (d := d + 1) hS1 hargs
    have hrun' : (execOp (ev tmps) o).run P C.w = .ok nxt C.w := by
     rw [hres]
     cases t <;> exact hrun
    have hstep : step P (b.mach tmps defers (.inRegion ops (i :: rest) :: k) cm C.w) = .next (lone fr (b.at tmps defers (.inRegion ops (i :: rest) :: k) :: b.K cm) C.w) := by
     cases nxt <;> simp [nextFrame] at hnf <;> subst hnf
     ·exact step_enter ho hwant (.inr hnd) hrun'
     ·exact step_round ho hwant (.inr hnd) hrun'
    obtain ⟨C2, hx2, hS2, hend⟩ := hcalls (b.at tmps defers (.inRegion ops (i :: rest) :: k)) (b.K cm)
    have hE1 := hg.env hR.env
    have hdeep : ∀ l, Deep (d + 1) l → Deep d l := by
     rintro l ⟨a, r, rfl, h1⟩
     exact ⟨a, r, rfl, by omega⟩
    have hE2 : EnvRel C2 d (stripAt st.env (tmpsOf args)) tmps := hE1.mono hx2 (fun t r h => by
     obtain ⟨a, r', he, h1⟩ := h
     simp at he
     omega)
    have hx : Ext (Deep d) C C2 := hg.ext.trans (hx2.weaken hdeep)
    cases e with
    | ret v =>
     simp only at h hend
     obtain ⟨hpl, cv, hcv, hst⟩ := hend
     have hgr := gR_good d (o.dst.getD tmps.size)
     have hE3 : EnvRel (C2.map (gR d (o.dst.getD tmps.size))) d (stripAt st.env (tmpsOf args)) tmps := hgr.env hE2
     have hv3 : VRel (C2.map (gR d (o.dst.getD tmps.size))) v (some [d + 2, o.dst.getD tmps.size]) cv :=
      VRel.map hgr.f _ _ _ _ (.inr ⟨_, _, rfl, rfl, fun r => by simp [gR]⟩) (isPl_lp hpl) (fun hb => absurd hb (by simp [isPl_bx hpl])) hcv
     have hx3 : Ext (Deep d) C (C2.map (gR d (o.dst.getD tmps.size))) := hx.trans hgr.ext
     obtain ⟨c', C4, k1, k2, k3, k4⟩ := FinS.puts (P := P) (C := C2.map (gR d (o.dst.getD tmps.size))) (d := d) (tmps := tmps) (o := o) (v := v) (x := pure cv) (st' := { st with env := stripAt st.env (tmpsOf args), S := S1 })
      ⟨cv, C2.map (gR d (o.dst.getD tmps.size)), rfl, hE3.set _ hv3, hgr.heap hS2, Ext.refl _ _⟩
     simp only [Sem.run_pure, Result.ok.injEq] at k1
     obtain ⟨rfl, hw4⟩ := k1
     have hR4 := hR.puts (hx3.trans k4) k2 k3 rfl rfl
     refine (ops_ok hF hH rest h hR4 (left_lp ho (hlp.stripAt _) v)).trans (hx3.trans k4) ?_
     refine Steps.head hstep ?_
     have hst' := hst
     rw [finish_op cv ho] at hst'
     rw [← hw4]
     exact hst'
    | pan ch =>
     simp only at h hend
     cases h
     obtain ⟨cch, hch, hst⟩ := hend
     refine ⟨C2, tmps, defers, cm, hx, ⟨hE2, hS2, hR.defs.mono hx, hR.par.mono hx⟩, .inl ⟨_, rfl⟩, cch, _, hch, Steps.head hstep hst⟩
end Go.Ab
namespace Go.Ab
variable {P : Program} {C : Ctx} {n : Nat}
theorem BoxRel.set {b : Nat} {q : List Nat} : ∀ {cs : List AV} {k : Nat}, BoxRel C cs b q k → ∀ (j : Nat) {v v' : AV}, cs[j]? = some v → (∀ p c, VRel C v p c → VRel C v' p c) → isPl v' = false → BoxRel C (cs.set j v') b q k
 | [], _, _, j, _, _, hj, _, _ => by simp at hj
 | a :: cs, k, h, 0, v, v', hj, hv, hp => by
  simp only [BoxRel, List.set_cons_zero] at h ⊢
  simp only [List.getElem?_cons_zero, Option.some.injEq] at hj
  subst hj
  obtain ⟨⟨c, h1, h2, h3, h4, _, h6⟩, hr⟩ := h
  exact ⟨⟨c, h1, h2, h3, h4, hp, hv _ _ h6⟩, hr⟩
 | a :: cs, k, h, j + 1, v, v', hj, hv, hp => by
  simp only [BoxRel, List.set_cons_succ] at h ⊢
  exact ⟨h.1, BoxRel.set h.2 j (by simpa using hj) hv hp⟩
theorem look_drop0 {a b : Nat} (h : a ≠ b) : ∀ l : List (Nat × Obj), Sto.look b (Sto.dropIn a l) = Sto.look b l
 | [] => rfl
 | (i, o) :: l => by
  unfold Sto.dropIn
  split
  ·rename_i e
   subst e
   rw [show Sto.look b ((i, o) :: l) = if i = b then some o else Sto.look b l from rfl, if_neg h]
  ·show (if i = b then some o else Sto.look b (Sto.dropIn a l)) = if i = b then some o else Sto.look b l
   rw [look_drop0 h l]
theorem get_drop_ne0 {S : Sto} {a b : Nat} (h : a ≠ b) : (S.drop a).get b = S.get b := look_drop0 h S.heap
def ArrL (l : List Nat) : Prop := ∃ id, l = [1, id, 0]
theorem frzAt_ok {S : Sto} (hS : HeapRel C S) (bid j : Nat) : ∃ C', C'.w = C.w ∧ HeapRel C' (frzAt S bid j) ∧ Ext ArrL C C' := by
 have triv : ∃ C', C'.w = C.w ∧ HeapRel C' S ∧ Ext ArrL C C' := ⟨C, rfl, hS, Ext.refl _ _⟩
 unfold frzAt
 split
 ·rename_i cs hg1
  split
  ·rename_i id es len hj
   split
   ·rename_i es' rows hg2
    split
    ·rename_i hc
     obtain ⟨rfl, rfl⟩ := hc
     have hne : id ≠ bid := by rintro rfl; rw [hg1] at hg2; cases hg2
     obtain ⟨hid, h1, h2, h3, h4, h5⟩ := hS.get hg2
     have hx : Ext ArrL C (C.map (fzL id)) := Ext.map C (fzL_froz id) (fun l hl => fzL_other (fun e => hl ⟨id, e⟩))
     have hS1 := hS.frz id
     have hget : (S.drop id).get bid = some (.cells cs) := by rw [get_drop_ne0 hne]; exact hg1
     refine ⟨C.map (fzL id), rfl, hS1.put hget (Ext.refl (fun _ => False) _) rfl (fun _ _ _ h => h) hS1.fresh ?_, hx⟩
     refine BoxRel.set (hS1.get hget).2 j hj (fun p c hv => ?_) rfl
     simp only [VRel] at hv ⊢
     obtain ⟨b, o, cap, rfl, hl, hk, hn, hs, ha⟩ := hv
     refine ⟨b, o, cap, none, rfl, hl, h1, ?_, (fun h => by cases h), .inl rfl⟩
     rcases ha with ha | ⟨rfl, rfl⟩
     ·have : rows = [] := List.length_eq_zero_iff.1 (by omega)
      subst this
      simp [RowsRel]
     ·rw [Nat.zero_mul, Nat.add_zero]
      exact h4.frz
    ·exact triv
   ·exact triv
  ·exact triv
 ·exact triv
theorem frzBox_ok {S : Sto} (hS : HeapRel C S) (bid : Nat) : ∀ n, ∃ C', C'.w = C.w ∧ HeapRel C' (frzBox S bid n) ∧ Ext ArrL C C'
 | 0 => ⟨C, rfl, hS, Ext.refl _ _⟩
 | n + 1 => by
  obtain ⟨C1, w1, s1, x1⟩ := frzBox_ok hS bid n
  obtain ⟨C2, w2, s2, x2⟩ := frzAt_ok s1 bid n
  exact ⟨C2, w2.trans w1, s2, x1.trans x2⟩
theorem frzSt_ok {d : Nat} {b : FB} {tmps : Array Value} {defers : List Deferred} {cm : FrameMode} : ∀ (l : List (Nat × Nat)) {C : Ctx} {st : St}, FrRel C d b st tmps defers cm → ∃ C', C'.w = C.w ∧ FrRel C' d b (frzSt st l) tmps defers cm ∧ (frzSt st l).env = st.env ∧ Ext (Deep d) C C'
 | [], C, st, hR => ⟨C, rfl, hR, rfl, Ext.refl _ _⟩
 | (t, n) :: ts, C, st, hR => by
  have one : ∃ C', C'.w = C.w ∧ FrRel C' d b (frzOne st n (st.env.getD t .undef)) tmps defers cm ∧ (frzOne st n (st.env.getD t .undef)).env = st.env ∧ Ext (Deep d) C C' := by
   unfold frzOne
   split
   ·rename_i bid _
    obtain ⟨C1, w1, s1, x1⟩ := frzBox_ok hR.heap bid n
    refine ⟨C1, w1, ⟨hR.env.mono x1 (fun t r h => by obtain ⟨id, h⟩ := h; simp at h), s1, hR.defs.mono x1, hR.par.mono x1⟩, rfl, x1.weaken (fun l hl => by obtain ⟨id, rfl⟩ := hl; exact ⟨1, [id, 0], rfl, .inl rfl⟩)⟩
   ·exact ⟨C, rfl, hR, rfl, Ext.refl _ _⟩
  obtain ⟨C1, w1, r1, e1, x1⟩ := one
  obtain ⟨C2, w2, r2, e2, x2⟩ := frzSt_ok ts r1
  exact ⟨C2, w2.trans w1, r2, e2.trans e1, x1.trans x2⟩
def prL (d t n : Nat) : List Nat → List Nat
 | a :: u :: r => if a = d + 2 ∧ u = t then 1 :: n :: r else a :: u :: r
 | l => l
theorem prL_good (d t n : Nat) : Good (prL d t n) d [t] := by
 refine ⟨rfl, rfl, fun r => ?_, fun l hl => ?_, fun t' ht r => ?_⟩
 ·cases r with
  | nil => rfl
  | cons a r => simp only [prL]; rw [if_neg (by omega)]
 ·match l with
  | [] => rfl
  | [_] => rfl
  | a :: u :: r =>
   simp only [prL]
   rw [if_neg]
   rintro ⟨rfl, _⟩
   exact hl ⟨d + 2, u :: r, rfl, .inr (Nat.le_refl _)⟩
 ·simp only [prL]
  rw [if_neg (fun h => ht (by simp [h.2]))]
theorem prL_self (d t n : Nat) (r : List Nat) : prL d t n ((d + 2) :: t :: r) = 1 :: n :: r := if_pos ⟨rfl, rfl⟩
theorem BoxRel.pro {d t n : Nat} : ∀ {cs : List AV} {b j : Nat}, BoxRel C cs b [d + 2, t] j → BoxRel (C.map (prL d t n)) cs b [1, n] j
 | [], _, _, _ => by simp [BoxRel]
 | v :: vs, b, j, h => by
  simp only [BoxRel] at h ⊢
  obtain ⟨⟨c, h1, h2, h3, h4, h5, h6⟩, hr⟩ := h
  refine ⟨⟨c, h1, h2, ?_, h4, h5, ?_⟩, hr.pro⟩
  ·show prL d t n (C.L b j) = _
   rw [h3]; exact prL_self d t n [0]
  ·exact VRel.map (prL_good d t n).f _ _ _ _ (.inr ⟨_, _, rfl, rfl, fun r => prL_self d t n ([j + 1] ++ r)⟩) (isPl_lp h5) (fun hb => absurd hb (by simp [isPl_bx h5])) h6
theorem proOne_ok {d : Nat} {b : FB} {tmps : Array Value} {defers : List Deferred} {cm : FrameMode} {st : St} (t : Nat) (hR : FrRel C d b st tmps defers cm) (hl : LpIn st.env []) :
  ∃ C', C'.w = C.w ∧ FrRel C' d b (proOne st t) tmps defers cm ∧ LpIn (proOne st t).env [] ∧ Ext (Deep d) C C' := by
 unfold proOne
 split
 rotate_left
 ·exact ⟨C, rfl, hR, hl, Ext.refl _ _⟩
 rename_i cs hb
 have hlt : t < st.env.length := by
  refine Classical.byContradiction fun hn => ?_
  simp [List.getD, hn, AV.undef] at hb
 have hbe : st.env[t]? = some (.box cs) := by
  rw [List.getD_eq_getElem?_getD, List.getElem?_eq_getElem hlt, Option.getD_some] at hb
  rw [List.getElem?_eq_getElem hlt, hb]
 obtain ⟨c, hc, hv⟩ := hR.env.2 t _ hbe
 simp only [VRel] at hv
 obtain ⟨d', t', he, rfl, hbox⟩ := hv
 simp only [Option.some.injEq, List.cons.injEq, Nat.add_right_cancel_iff, and_true] at he
 obtain ⟨rfl, rfl⟩ := he
 have hg := prL_good d t st.S.next
 have hn : C.n = st.S.next := hR.heap.n
 let C1 := C.map (prL d t st.S.next)
 let C2 := C1.name (C.β d t) 0 0 0
 have hx2 : Ext (fun _ => False) C1 C2 := Ext.name _ _ _ _ _
 have hx : Ext (Deep d) C C2 := hg.ext.trans (hx2.weaken (fun _ h => h.elim))
 have hφ : C2.φ st.S.next = C.β d t := by show (if st.S.next = C1.n then _ else _) = _; rw [if_pos (show st.S.next = C1.n from hn.symm)]
 have hS1 : HeapRel C1 st.S := hg.heap hR.heap
 refine ⟨C2, rfl, ⟨?_, ?_, hR.defs.mono hx, hR.par.mono hx⟩, hl.set (.inl rfl), hx⟩
 ·have hE1 : EnvRel C1 d (stripAt st.env [t]) tmps := hg.env hR.env
  have hE2 : EnvRel C2 d (stripAt st.env [t]) tmps := hE1.mono hx2 (fun _ _ h => h)
  have hE3 := hE2.setA t (v := .ptr st.S.next 0) (by
   have hct : tmps.getD t Go.undef = .pointer (some ⟨C.β d t, 0, none⟩) := by
    obtain ⟨hlt', hc'⟩ := Array.getElem?_eq_some_iff.1 hc
    simp [hlt', hc']
   rw [hct]
   simp only [VRel]
   exact ⟨by rw [hφ], by show st.S.next < C.n + 1; omega⟩)
  have : (stripAt st.env [t]).set t (.ptr st.S.next 0) = st.env.set t (.ptr st.S.next 0) := by simp [stripAt]
  rw [this] at hE3
  exact hE3
 ·refine ⟨by show C.n + 1 = st.S.next + 1; rw [hn], ?_, ?_, ?_, hR.heap.base.mono hx⟩
  ·simp only [Sto.new, List.map_cons, List.nodup_cons]
   refine ⟨fun hm => ?_, hR.heap.nodup⟩
   obtain ⟨p, hp, he⟩ := List.mem_map.1 hm
   have := (hR.heap.obj p.1 p.2 hp).1
   omega
  ·intro id o' hm
   simp only [Sto.new, List.mem_cons] at hm
   rcases hm with hm | hm
   ·cases hm
    refine ⟨Nat.lt_succ_self _, ?_⟩
    show BoxRel C2 cs (C2.φ st.S.next) [1, st.S.next] 0
    rw [hφ]
    exact BoxRel.mono hx2 _ _ _ _ (fun r e => by cases e; exact ⟨by simp, by simp [froz], fun _ h => h⟩) hbox.pro
   ·have h1 := hS1.obj id o' hm
    exact ⟨Nat.lt_succ_of_lt h1.1, h1.2.mono hx2 (by show id < C.n; rw [hn]; exact h1.1) (fun r h => h)⟩
  ·intro b' x hb'
   exact hS1.fresh b' x hb'
theorem proSt_ok {d : Nat} {b : FB} {tmps : Array Value} {defers : List Deferred} {cm : FrameMode} : ∀ (l : List Nat) {C : Ctx} {st : St}, FrRel C d b st tmps defers cm → LpIn st.env [] → ∃ C', C'.w = C.w ∧ FrRel C' d b (proSt st l) tmps defers cm ∧ LpIn (proSt st l).env [] ∧ Ext (Deep d) C C'
 | [], C, st, hR, hl => ⟨C, rfl, hR, hl, Ext.refl _ _⟩
 | t :: ts, C, st, hR, hl => by
  obtain ⟨C1, w1, r1, l1, x1⟩ := proOne_ok t hR hl
  obtain ⟨C2, w2, r2, l2, x2⟩ := proSt_ok ts r1 l1
  exact ⟨C2, w2.trans w1, r2, l2, x1.trans x2⟩
theorem preSt_ok {d : Nat} {b : FB} {tmps : Array Value} {defers : List Deferred} {cm : FrameMode} {st : St} (pol : Pol) (f : FuncId) (id : Nat) (hR : FrRel C d b st tmps defers cm) (hl : LpIn st.env []) :
  ∃ C', C'.w = C.w ∧ FrRel C' d b (preSt pol f id st) tmps defers cm ∧ LpIn (preSt pol f id st).env [] ∧ Ext (Deep d) C C' := by
 obtain ⟨C1, w1, r1, e1, x1⟩ := frzSt_ok (pol.fzr f id) hR
 obtain ⟨C2, w2, r2, l2, x2⟩ := proSt_ok (pol.pro f id) r1 (by rw [e1]; exact hl)
 exact ⟨C2, w2.trans w1, r2, l2, x1.trans x2⟩
end Go.Ab
namespace Go.Ab
variable {P : Program} {C : Ctx} {n : Nat}
section steps
variable {b : FB} {tmps : Array Value} {defers : List Deferred} {k : List Item} {cm : FrameMode} {w : World}
theorem stepA_skip : step P (b.mach tmps defers (.code .skip :: k) cm w) = .next (b.mach tmps defers k cm w) := step_lone_go (by simp [stepG, stepG.exec, FB.at])
theorem stepA_label {l : Nat} : step P (b.mach tmps defers (.code (.label l) :: k) cm w) = .next (b.mach tmps defers k cm w) := step_lone_go (by simp [stepG, stepG.exec, FB.at])
theorem stepA_inBlock {id : Nat} : step P (b.mach tmps defers (.inBlock id :: k) cm w) = .next (b.mach tmps defers k cm w) := step_lone_go (by simp [stepG, stepG.exec, FB.at])
theorem stepA_inScope {c : Code} : step P (b.mach tmps defers (.inScope c :: k) cm w) = .next (b.mach tmps defers k cm w) := step_lone_go (by simp [stepG, stepG.exec, FB.at])
theorem stepA_seq {x y : Code} : step P (b.mach tmps defers (.code (.seq x y) :: k) cm w) = .next (b.mach tmps defers (.code x :: .code y :: k) cm w) := step_lone_go (by simp [stepG, stepG.exec, FB.at])
theorem stepA_cond {c : Operand} {x y : Code} {t : Bool} (h : ev tmps c = .bool t) : step P (b.mach tmps defers (.code (.cond c x y) :: k) cm w) = .next (b.mach tmps defers (.code (if t then x else y) :: k) cm w) :=
 step_lone_go (by
  have := eval_ev (b := b) (tmps := tmps) (defers := defers) c (.code (.cond c x y) :: k)
  simp only [FB.at] at this
  simp [stepG, stepG.exec, FB.at, this, h])
theorem stepA_block {id : Nat} {c : Code} : step P (b.mach tmps defers (.code (.block id c) :: k) cm w) = .next (b.mach tmps defers (.code c :: .inBlock id :: k) cm w) := step_lone_go (by simp [stepG, stepG.exec, FB.at])
theorem stepA_loop {c : Code} : step P (b.mach tmps defers (.code (.loop c) :: k) cm w) = .next (b.mach tmps defers (.code c :: .inLoop c :: k) cm w) := step_lone_go (by simp [stepG, stepG.exec, FB.at])
theorem stepA_inLoop {c : Code} : step P (b.mach tmps defers (.inLoop c :: k) cm w) = .next (b.mach tmps defers (.code c :: .inLoop c :: k) cm w) := step_lone_go (by simp [stepG, stepG.exec, FB.at])
theorem stepA_scope {c : Code} : step P (b.mach tmps defers (.code (.scope c) :: k) cm w) = .next (b.mach tmps defers (.code c :: .inScope c :: k) cm w) := step_lone_go (by simp [stepG, stepG.exec, FB.at])
theorem stepA_exit {id : Nat} {k' : List Item} (h : exitTo id k = some k') : step P (b.mach tmps defers (.code (.exit id) :: k) cm w) = .next (b.mach tmps defers k' cm w) := step_lone_go (by simp [stepG, stepG.exec, FB.at, h])
theorem stepA_goto {l : Nat} {k' : List Item} (h : gotoIn l k = some k') : step P (b.mach tmps defers (.code (.goto l) :: k) cm w) = .next (b.mach tmps defers k' cm w) := step_lone_go (by simp [stepG, stepG.exec, FB.at, h])
theorem stepA_region {id : Nat} {ops : Array Oper} : step P (b.mach tmps defers (.code (.region id ops false) :: k) cm w) = .next (b.mach tmps defers (.inRegion ops (List.range ops.size) :: k) cm w) := step_lone_go (by simp [stepG, stepG.exec, FB.at])
end steps
theorem LpIn.mono {env : List AV} {pl pl' : List Tmp} (h : LpIn env pl) (hs : ∀ t ∈ pl, t ∈ pl') : LpIn env pl' := fun t s off ht => hs t (h t s off ht)
theorem maskE_get : ∀ (ks : List Bool) (env : List AV) (t : Nat), (maskE ks env)[t]? = env[t]? ∨ ((maskE ks env)[t]? = some .unk ∧ t < env.length)
 | _, [], t => by cases ‹List Bool› <;> simp [maskE]
 | [], v :: vs, t => by simp [maskE]
 | true :: ks, v :: vs, t => by
  cases t with
  | zero => simp [maskE]
  | succ t => simpa [maskE] using maskE_get ks vs t
 | false :: ks, v :: vs, t => by
  cases t with
  | zero => simp [maskE]
  | succ t => simpa [maskE] using maskE_get ks vs t
theorem maskE_length : ∀ (ks : List Bool) (env : List AV), (maskE ks env).length = env.length
 | ks, [] => by cases ks <;> simp [maskE]
 | [], v :: vs => by simp [maskE]
 | true :: ks, v :: vs => by simp [maskE, maskE_length ks vs]
 | false :: ks, v :: vs => by simp [maskE, maskE_length ks vs]
theorem masked_rel {d : Nat} {b : FB} {st : St} {tmps : Array Value} {defers : List Deferred} {cm : FrameMode} (hR : FrRel C d b st tmps defers cm) (hl : LpIn st.env []) (keep : Option (List Bool)) :
  FrRel C d b (st.masked keep) tmps defers cm ∧ LpIn (st.masked keep).env [] := by
 unfold St.masked
 cases keep with
 | none => exact ⟨hR, hl⟩
 | some ks =>
  refine ⟨⟨⟨by rw [maskE_length]; exact hR.env.1, fun t v hv => ?_⟩, hR.heap, hR.defs, hR.par⟩, fun t s off ht => ?_⟩
  ·rcases maskE_get ks st.env t with h | ⟨h, hlt⟩
   ·rw [h] at hv; exact hR.env.2 t v hv
   ·rw [h] at hv; cases hv
    have : t < tmps.size := by rw [← hR.env.1]; exact hlt
    exact ⟨tmps[t], Array.getElem?_eq_getElem this, by simp [VRel]⟩
  ·rcases maskE_get ks st.env t with h | ⟨h, _⟩
   ·exact hl t s off (by rw [← h]; exact ht)
   ·have : (maskE ks st.env)[t]? = some (.lptr s off) := ht
    rw [h] at this; cases this
def DrawOK (P : Program) (H : Handler) (pol : Pol) : Prop :=
 ∀ {f : FuncId} {id : Nat} {ops : Array Oper} {st : St} {x : AExit} {st' : St}, evDraw P H pol f id ops st = some (x, st') → ∀ {C : Ctx} {d : Nat} {b : FB} {tmps : Array Value} {defers : List Deferred} {cm : FrameMode}, b.fn = f →
  FrRel C d b st tmps defers cm → LpIn st.env [] → ∀ k, Goes P C d b (b.mach tmps defers (.code (.region id ops true) :: k) cm C.w) k x st'
def CodeOK (P : Program) (H : Handler) (N : Nat) (pol : Pol) (f : FuncId) (round : Option Nat) (c : Code) : Prop :=
 ∀ {st : St} {x : AExit} {st' : St}, evCode P H N pol f round c st = some (x, st') → ∀ {C : Ctx} {d : Nat} {b : FB} {tmps : Array Value} {defers : List Deferred} {cm : FrameMode}, b.fn = f → b.rnd = round.map C.φ → (∀ l, round = some l → l < C.n) →
  FrRel C d b st tmps defers cm → LpIn st.env [] → ∀ k, Goes P C d b (b.mach tmps defers (.code c :: k) cm C.w) k x st'
theorem Goes.normal {d : Nat} {b : FB} {st : St} {tmps : Array Value} {defers : List Deferred} {cm : FrameMode} {m : Machine} {k : List Item} (hR : FrRel C d b st tmps defers cm) (hl : LpIn st.env []) (hs : Steps P m (b.mach tmps defers k cm C.w)) : Goes P C d b m k .normal st :=
 ⟨C, tmps, defers, cm, Ext.refl _ _, hR, .inr hl, hs⟩
theorem Arr.pass {C' : Ctx} {b : FB} {m : Machine} {y : Item} {k : List Item} {tmps : Array Value} {defers : List Deferred} {cm : FrameMode} {x : AExit} (hx : x ≠ .normal) (he : ∀ id, x = .exit id → exitTo id (y :: k) = exitTo id k) (hg : ∀ l, x = .goto l → gotoIn l (y :: k) = gotoIn l k)
  (h : Arr P C' b m (y :: k) tmps defers cm x) : Arr P C' b m k tmps defers cm x := by
 cases x with
 | normal => exact absurd rfl hx
 | exit id => obtain ⟨k0, h1, h2⟩ := h; exact ⟨k0, h1.trans (he id rfl), h2⟩
 | goto l => obtain ⟨k0, h1, h2⟩ := h; exact ⟨k0, h1.trans (hg l rfl), h2⟩
 | ret => exact h
 | pan ch => exact h
theorem round_ext {C' : Ctx} {X : List Nat → Prop} (h : Ext X C C') {b : FB} {round : Option Nat} (hb : b.rnd = round.map C.φ) (hn : ∀ l, round = some l → l < C.n) : b.rnd = round.map C'.φ ∧ ∀ l, round = some l → l < C'.n := by
 cases round with
 | none => exact ⟨hb, fun l h => by cases h⟩
 | some l =>
  have hl := hn l rfl
  refine ⟨by rw [hb]; simp [(h.ids l hl).1], fun l' h' => by cases h'; exact Nat.lt_of_lt_of_le hl h.n⟩
theorem seq_ok {H : Handler} {N : Nat} {pol : Pol} {f : FuncId} {round : Option Nat} {x y : Code} (hx : CodeOK P H N pol f round x) (hy : CodeOK P H N pol f round y) : CodeOK P H N pol f round (.seq x y) := by
 intro st e st' h C d b tmps defers cm hfn hrd hrn hR hl k
 unfold evCode at h
 cases h1 : evCode P H N pol f round x st with
 | none => rw [h1] at h; cases h
 | some r =>
  obtain ⟨e1, st1⟩ := r
  rw [h1] at h
  obtain ⟨C1, t1, d1, c1, k1, k2, k3, k4⟩ := hx h1 hfn hrd hrn hR hl (.code y :: k)
  have hst : Steps P (b.mach tmps defers (.code (.seq x y) :: k) cm C.w) (b.mach tmps defers (.code x :: .code y :: k) cm C.w) := .one stepA_seq
  cases e1 with
  | normal =>
   obtain ⟨hrd1, hrn1⟩ := round_ext k1 hrd hrn
   have hl1 : LpIn st1.env [] := k3.resolve_left (by rintro ⟨ch, hc⟩; cases hc)
   exact (hy h hfn hrd1 hrn1 k2 hl1 k).trans k1 (hst.trans k4)
  | _ => cases h; exact ⟨C1, t1, d1, c1, k1, k2, k3, Arr.of_steps hst (Arr.pass (by simp) (fun _ _ => rfl) (fun _ _ => rfl) k4)⟩
theorem block_ok {H : Handler} {N : Nat} {pol : Pol} {f : FuncId} {round : Option Nat} {id : Nat} {c : Code} (hc : CodeOK P H N pol f round c) : CodeOK P H N pol f round (.block id c) := by
 intro st e st' h C d b tmps defers cm hfn hrd hrn hR hl k
 unfold evCode at h
 cases h1 : evCode P H N pol f round c st with
 | none => rw [h1] at h; cases h
 | some r =>
  obtain ⟨e1, st1⟩ := r
  rw [h1] at h
  obtain ⟨C1, t1, d1, c1, k1, k2, k3, k4⟩ := hc h1 hfn hrd hrn hR hl (.inBlock id :: k)
  have hst : Steps P (b.mach tmps defers (.code (.block id c) :: k) cm C.w) (b.mach tmps defers (.code c :: .inBlock id :: k) cm C.w) := .one stepA_block
  cases e1 with
  | normal =>
   cases h
   exact ⟨C1, t1, d1, c1, k1, k2, k3, hst.trans (Steps.trans k4 (.one stepA_inBlock))⟩
  | exit id' =>
   simp only at h
   obtain ⟨k0, g1, g2⟩ := k4
   split at h
   ·rename_i hid
    cases h
    subst hid
    have hm := masked_rel k2 (k3.resolve_left (by rintro ⟨ch, hc⟩; cases hc)) (pol.out f id')
    exact ⟨C1, t1, d1, c1, k1, hm.1, .inr hm.2, hst.trans (Steps.trans g2 (.one (stepA_exit (by rw [g1]; simp [exitTo]))))⟩
   ·rename_i hid
    cases h
    refine ⟨C1, t1, d1, c1, k1, k2, k3, k0, g1.trans ?_, hst.trans g2⟩
    simp only [exitTo]
    rw [if_neg (by simp; exact fun e => hid e.symm)]
  | goto l => cases h; exact ⟨C1, t1, d1, c1, k1, k2, k3, Arr.of_steps hst (Arr.pass (by simp) (fun _ h => by cases h) (fun _ _ => rfl) k4)⟩
  | ret => cases h; exact ⟨C1, t1, d1, c1, k1, k2, k3, Arr.of_steps hst (Arr.pass (by simp) (fun _ h => by cases h) (fun _ h => by cases h) k4)⟩
  | pan ch => cases h; exact ⟨C1, t1, d1, c1, k1, k2, k3, Arr.of_steps hst (Arr.pass (by simp) (fun _ h => by cases h) (fun _ h => by cases h) k4)⟩
theorem loop_ok {H : Handler} {N : Nat} {pol : Pol} {f : FuncId} {round : Option Nat} {c : Code} (hc : CodeOK P H N pol f round c) : CodeOK P H N pol f round (.loop c) := by
 intro st e st' h C d b tmps defers cm hfn hrd hrn hR hl k
 unfold evCode at h
 have key : ∀ (m : Nat) {st : St} {C : Ctx} {tmps : Array Value} {defers : List Deferred} {cm : FrameMode}, loopN (pol.keep f) (evCode P H N pol f round c) m st = some (e, st') → b.rnd = round.map C.φ → (∀ l, round = some l → l < C.n) →
   FrRel C d b st tmps defers cm → LpIn st.env [] → Goes P C d b (b.mach tmps defers (.code c :: .inLoop c :: k) cm C.w) k e st' := by
  intro m
  induction m with
  | zero => intro st C tmps defers cm h; simp [loopN] at h
  | succ m ih =>
   intro st C tmps defers cm h hrd hrn hR hl
   unfold loopN at h
   obtain ⟨hRm, hlm⟩ := masked_rel hR hl (pol.keep f)
   cases h1 : evCode P H N pol f round c (st.masked (pol.keep f)) with
   | none => rw [h1] at h; cases h
   | some r =>
    obtain ⟨e1, st1⟩ := r
    rw [h1] at h
    obtain ⟨C1, t1, d1, c1, k1, k2, k3, k4⟩ := hc h1 hfn hrd hrn hRm hlm (.inLoop c :: k)
    cases e1 with
    | normal =>
     obtain ⟨hrd1, hrn1⟩ := round_ext k1 hrd hrn
     have hl1 : LpIn st1.env [] := k3.resolve_left (by rintro ⟨ch, hc⟩; cases hc)
     exact (ih h hrd1 hrn1 k2 hl1).trans k1 (Steps.trans k4 (.one stepA_inLoop))
    | _ => cases h; exact ⟨C1, t1, d1, c1, k1, k2, k3, Arr.pass (by simp) (fun _ _ => rfl) (fun _ _ => rfl) k4⟩
 exact (key N h hrd hrn hR hl).trans (Ext.refl _ _) (.one stepA_loop)
theorem scope_ok {H : Handler} (hH : HSound P H) {N : Nat} {pol : Pol} {f : FuncId} {round : Option Nat} {c : Code} (hc : CodeOK P H N pol f round c) : CodeOK P H N pol f round (.scope c) := by
 intro st e st' h C d b tmps defers cm hfn hrd hrn hR hl k
 unfold evCode at h
 cases h1 : evCode P H N pol f round c st with
 | none => rw [h1] at h; cases h
 | some r =>
  obtain ⟨e1, st1⟩ := r
  rw [h1] at h
  obtain ⟨C1, t1, d1, c1, k1, k2, k3, k4⟩ := hc h1 hfn hrd hrn hR hl (.inScope c :: k)
  have hst : Steps P (b.mach tmps defers (.code (.scope c) :: k) cm C.w) (b.mach tmps defers (.code c :: .inScope c :: k) cm C.w) := .one stepA_scope
  cases e1 with
  | normal =>
   cases h
   exact ⟨C1, t1, d1, c1, k1, k2, k3, hst.trans (Steps.trans k4 (.one stepA_inScope))⟩
  | goto l =>
   simp only at h
   obtain ⟨k0, g1, g2⟩ := k4
   have hl1 : LpIn st1.env [] := k3.resolve_left (by rintro ⟨ch, hc⟩; cases hc)
   cases hf : findLabel c l with
   | none =>
    rw [hf] at h
    cases h
    refine ⟨C1, t1, d1, c1, k1, k2, k3, k0, g1.trans ?_, hst.trans g2⟩
    simp [gotoIn, hf]
   | some rest =>
    rw [hf] at h
    simp only at h
    obtain ⟨hrd1, hrn1⟩ := round_ext k1 hrd hrn
    have hgo : Steps P (b.mach tmps defers (.code (.scope c) :: k) cm C.w) (b.mach t1 d1 (.code rest :: .inScope c :: k) c1 C1.w) :=
     hst.trans (Steps.trans g2 (.one (stepA_goto (by rw [g1]; simp [gotoIn, hf]))))
    cases h2 : H.code f round rest st1 with
    | none => rw [h2] at h; cases h
    | some r2 =>
     obtain ⟨e2, st2⟩ := r2
     rw [h2] at h
     obtain ⟨C2, t2, d2, c2, j1, j2, j3, j4⟩ := hH.code h2 hfn hrd1 hrn1 k2 hl1 (.inScope c :: k)
     cases e2 with
     | normal =>
      cases h
      exact ⟨C2, t2, d2, c2, k1.trans j1, j2, j3, hgo.trans (Steps.trans j4 (.one stepA_inScope))⟩
     | goto l' =>
      simp only at h
      obtain ⟨k0', g1', g2'⟩ := j4
      split at h
      ·cases h
      ·rename_i hs
       cases h
       refine ⟨C2, t2, d2, c2, k1.trans j1, j2, j3, k0', g1'.trans ?_, hgo.trans g2'⟩
       have : findLabel c l' = none := by simpa using hs
       simp [gotoIn, this]
     | exit id => cases h; exact ⟨C2, t2, d2, c2, k1.trans j1, j2, j3, Arr.of_steps hgo (Arr.pass (by simp) (fun _ _ => rfl) (fun _ h => by cases h) j4)⟩
     | ret => cases h; exact ⟨C2, t2, d2, c2, k1.trans j1, j2, j3, Arr.of_steps hgo (Arr.pass (by simp) (fun _ h => by cases h) (fun _ h => by cases h) j4)⟩
     | pan ch => cases h; exact ⟨C2, t2, d2, c2, k1.trans j1, j2, j3, Arr.of_steps hgo (Arr.pass (by simp) (fun _ h => by cases h) (fun _ h => by cases h) j4)⟩
  | exit id => cases h; exact ⟨C1, t1, d1, c1, k1, k2, k3, Arr.of_steps hst (Arr.pass (by simp) (fun _ _ => rfl) (fun _ h => by cases h) k4)⟩
  | ret => cases h; exact ⟨C1, t1, d1, c1, k1, k2, k3, Arr.of_steps hst (Arr.pass (by simp) (fun _ h => by cases h) (fun _ h => by cases h) k4)⟩
  | pan ch => cases h; exact ⟨C1, t1, d1, c1, k1, k2, k3, Arr.of_steps hst (Arr.pass (by simp) (fun _ h => by cases h) (fun _ h => by cases h) k4)⟩
end Go.Ab
namespace Go.Ab
variable {P : Program} {C : Ctx} {n : Nat}
theorem HeapRel.monoD {X : List Nat → Prop} {C' : Ctx} {S : Sto} (hS : HeapRel C S) (h : Ext X C C') (hn : C'.n = C.n) (hX : ∀ i o, (i, o) ∈ S.heap → ∀ r, ¬ X (1 :: i :: r)) (hfr : ∀ b o, C'.w.heap.size ≤ b → C'.L b o = []) : HeapRel C' S :=
 ⟨hn.trans hS.n, hS.nodup, fun id o ho => ⟨(hS.obj id o ho).1, (hS.obj id o ho).2.mono h (by rw [hS.n]; exact (hS.obj id o ho).1) (hX id o ho)⟩, hfr, hS.base.mono h⟩
section steps
variable {b : FB} {tmps : Array Value} {defers : List Deferred} {k : List Item} {cm : FrameMode} {w : World}
theorem stepA_endRange {l : Nat} {jump : Option Code} {w' : World} (h : (Instr.endLoop l).run P w = .ok jump w') :
  step P (b.mach tmps defers (.endRangeFunc l :: k) cm w) = .next (b.mach tmps defers ((jump.map Item.code).toList ++ k) cm w') :=
 step_lone_go (by simp [stepG, stepG.exec, FB.at, Sem.runT_eq, h, GStep.bare_after])
theorem stepA_range {g : Operand} {ps : Array Tmp} {assign body : Code} {l : Nat} {mark : List Deferred} {w₁ w₂ : World} {dd : Deferred} {nxt : Next} {fr : Frame}
  (he : (Instr.enterLoop b.fn tmps ps assign body b.rnd).run P w = .ok (l, mark) w₁)
  (hres : (resolve (ev tmps) { callee := .value g, args := #[.const (.func (.yield l) #[] #[])], argTypes := #[] } 0).run P w₁ = .ok dd w₁) (hinv : (invoke dd.target dd.args).run P w₁ = .ok nxt w₂) (hn : nextFrame P .normal nxt = some fr) :
  step P (b.mach tmps defers (.code (.rangeFunc g ps assign body) :: k) cm w) = .next (lone fr (b.at tmps (mark ++ defers) (.inRangeFunc l :: k) :: b.K cm) w₂) :=
 step_lone_go (by
  have hev := eval_ev' (b := b) (tmps := tmps) (defers := mark ++ defers) (.inRangeFunc l :: k)
  simp only [FB.at] at hev
  cases nxt <;> simp [nextFrame] at hn <;> subst hn <;>
   simp [stepG, stepG.exec, FB.at, Sem.runT_eq, he, GStep.bare_after, stepG.apply, hev, Sem.run_bind, hres, hinv, Result.andThen])
theorem finish_range (l : Nat) (v : Value) : (b.at tmps defers (.inRangeFunc l :: k)).finish v = b.at tmps defers (.endRangeFunc l :: k) := by
 simp [Frame.finish, FB.at]
end steps
theorem run_enterInner {w : World} {l₀ : Nat} {r₀ : Loop} (h : w.heap[l₀]? = some (.loop r₀)) (fn : FuncId) (tmps : Array Value) (ps : Array Tmp) (assign body : Code) :
  (Instr.enterLoop fn tmps ps assign body (some l₀)).run P w =
   .ok (w.heap.size, []) (w.alloc (.loop { state := .ready, pending := none, fn, tmps, params := ps, assign, body, defers := r₀.defers })) := by
 unfold Instr.enterLoop
 simp only [Sem.run_bind, run_getLoop h, run_newObj_alloc, Result.andThen, Sem.run_pure]
theorem strip_list {d : Nat} {env : List AV} {tmps : Array Value} (hE : EnvRel C d env tmps) : ListRel C (env.map AV.strip) none 0 tmps.toList := by
 refine ListRel.mk (by simp [hE.1]) (fun j v c hv hc => ?_)
 rw [List.getElem?_map] at hv
 cases he : env[j]? with
 | none => rw [he] at hv; cases hv
 | some u =>
  rw [he] at hv
  cases hv
  obtain ⟨c', hc', hr⟩ := hE.2 j u he
  have : c' = c := by rw [Array.getElem?_toList] at hc; rw [hc] at hc'; exact (Option.some.inj hc').symm
  subst this
  exact ⟨(hr.strip none).2, (hr.strip none).1⟩
theorem give_facts {S : Sto} (hS : HeapRel C S) (o : Go.Obj) : let C2 := C.give o (fun _ => [1, S.next, 0]) 0 0 0
  C2.φ S.next = C.w.heap.size ∧ C2.w.heap[C.w.heap.size]? = some o ∧ (∀ j, C2.L C.w.heap.size j = [1, S.next, 0]) ∧ C2.n = S.next + 1 ∧ Ext (fun _ => False) C C2 := by
 intro C2
 have hn : C.n = S.next := hS.n
 refine ⟨?_, alloc_new _ _, fun j => ?_, ?_, Ext.give hS.fresh⟩
 ·show (if S.next = C.n then _ else _) = _
  rw [if_pos hn.symm]
 ·show (if C.w.heap.size = C.w.heap.size then _ else _) = _
  rw [if_pos rfl]
 ·show C.n + 1 = _
  rw [hn]
def entA (st : St) (round : Option Nat) : Option (Sto × List ADef × Nat) :=
 match round with
 | none => some (st.S.new .deferred, ⟨.coll st.S.next, []⟩ :: st.defs, st.S.next)
 | some l => match st.S.get l with
  | some (.loop r) => some (st.S, st.defs, r.defers)
  | _ => none
theorem enter_rel {d : Nat} {b : FB} {st : St} {tmps : Array Value} {defers : List Deferred} {cm : FrameMode} (hR : FrRel C d b st tmps defers cm) {f : FuncId} {round : Option Nat} {envc : List AV} (hcap : EnvRel C d envc tmps) (hfn : b.fn = f) (hrd : b.rnd = round.map C.φ) {ps : Array Tmp} {as body : Code}
  {S1 : Sto} {defs : List ADef} {dn : Nat}
  (h : entA st round = some (S1, defs, dn)) :
  ∃ (C2 : Ctx) (mark : List Deferred), (Instr.enterLoop b.fn tmps ps as body b.rnd).run P C.w = .ok (C2.φ S1.next, mark) C2.w ∧ Ext (fun _ => False) C C2 ∧
   HeapRel C2 (S1.new (.loop { state := .ready, pending := none, fn := f, env := envc.map AV.strip, params := ps.toList, assign := as, body := body, defers := dn })) ∧ DefRel C2 defs (mark ++ defers) ∧ S1.next < C2.n := by
 unfold entA at h
 cases round with
 | none =>
  cases h
  obtain ⟨g1, g2, g3, g4, g5⟩ := give_facts hR.heap (.deferred (some []))
  have hS1 : HeapRel (C.give (.deferred (some [])) (fun _ => [1, st.S.next, 0]) 0 0 0) (st.S.new .deferred) := by
   refine HeapRel.give hR.heap ?_
   rw [hR.heap.n]
   show _ ∧ _
   rw [g1]
   exact ⟨g2, g3⟩
  have hsz : (C.give (.deferred (some [])) (fun _ => [1, st.S.next, 0]) 0 0 0).w.heap.size = C.w.heap.size + 1 := World.size_alloc _ _
  have hw1 : (C.give (.deferred (some [])) (fun _ => [1, st.S.next, 0]) 0 0 0).w = C.w.alloc (.deferred (some [])) := rfl
  generalize C.give (.deferred (some [])) (fun _ => [1, st.S.next, 0]) 0 0 0 = C1 at *
  obtain ⟨e1, e2, e3, e4, e5⟩ := give_facts hS1 (.loop { state := .ready, pending := none, fn := b.fn, tmps, params := ps, assign := as, body := body, defers := C.w.heap.size })
  have hx := g5.trans e5
  have hw2 : (C1.give (.loop { state := .ready, pending := none, fn := b.fn, tmps, params := ps, assign := as, body := body, defers := C.w.heap.size }) (fun _ => [1, (st.S.new .deferred).next, 0]) 0 0 0).w = C1.w.alloc (.loop { state := .ready, pending := none, fn := b.fn, tmps, params := ps, assign := as, body := body, defers := C.w.heap.size }) := rfl
  have hdef : (C1.give (.loop { state := .ready, pending := none, fn := b.fn, tmps, params := ps, assign := as, body := body, defers := C.w.heap.size }) (fun _ => [1, (st.S.new .deferred).next, 0]) 0 0 0).φ st.S.next = C.w.heap.size :=
   (e5.ids st.S.next (by rw [g4]; omega)).1.trans g1
  refine ⟨C1.give (.loop { state := .ready, pending := none, fn := b.fn, tmps, params := ps, assign := as, body := body, defers := C.w.heap.size }) (fun _ => [1, (st.S.new .deferred).next, 0]) 0 0 0, [{ target := .collected C.w.heap.size, args := #[] }], ?_, hx, ?_, ?_, by rw [e4]; omega⟩
  ·rw [hrd, e1, hsz, hw2, hw1]
   exact run_enterLoop_outer _ _ _ _ _
  ·refine HeapRel.give hS1 ?_
   rw [hS1.n]
   refine ⟨_, by rw [e1]; exact e2, by rw [e1]; exact e3, rfl, rfl, hfn, rfl, rfl, rfl, ListRel.mono hx _ none 0 _ (Off.none _) (strip_list hcap), hdef.symm, ?_⟩
   rw [e4]; show st.S.next < st.S.next + 1 + 1; omega
  ·refine ⟨defers, by rw [hdef]; rfl, rfl, ?_, hR.defs.mono hx⟩
   rw [e4]; show st.S.next < st.S.next + 1 + 1; omega
 | some l =>
  simp only at h
  cases hg : st.S.get l with
  | none => rw [hg] at h; cases h
  | some o =>
   rw [hg] at h
   cases o <;> simp at h
   rename_i r
   obtain ⟨rfl, rfl, rfl⟩ := h
   obtain ⟨hl, lp, h1, h2, h3, h4, h5, h6, h7, h8, h9, h10, h11⟩ := hR.heap.get hg
   obtain ⟨g1, g2, g3, g4, g5⟩ := give_facts hR.heap (.loop { state := .ready, pending := none, fn := b.fn, tmps, params := ps, assign := as, body := body, defers := lp.defers })
   refine ⟨C.give (.loop { state := .ready, pending := none, fn := b.fn, tmps, params := ps, assign := as, body := body, defers := lp.defers }) (fun _ => [1, st.S.next, 0]) 0 0 0, [], ?_, g5, ?_, hR.defs.mono g5, by rw [g4]; omega⟩
   ·rw [hrd, g1]
    exact run_enterInner h1 _ _ _ _ _
   ·refine HeapRel.give hR.heap ?_
    rw [hR.heap.n]
    refine ⟨_, by rw [g1]; exact g2, by rw [g1]; exact g3, rfl, rfl, hfn, rfl, rfl, rfl, ListRel.mono g5 _ none 0 _ (Off.none _) (strip_list hcap), ?_, ?_⟩
    ·exact h10.trans (g5.ids _ h11).1.symm
    ·rw [g4, ← hR.heap.n]; show r.defers < C.n + 1; omega
theorem range_ok {H : Handler} (hH : HSound P H) {N : Nat} {pol : Pol} {f : FuncId} {round : Option Nat} {g : Operand} {ps : Array Tmp} {as body : Code} : CodeOK P H N pol f round (.rangeFunc g ps as body) := by
 intro st e st' h C d b tmps defers cm hfn hrd hrn hR hl k
 unfold evCode evRange at h
 have hg := (opd_rel hR.env [] g none).1
 split at h
 ·rename_i gf first cap hgo
  rw [hgo] at hg
  obtain ⟨a', b', hc, hy, ha, hb⟩ := hg.fn_eq
  have hc' : ev tmps g = .func (.func gf) a'.toArray b'.toArray := hc
  simp only at h
  obtain ⟨S1, defs, dn, hent, h⟩ : ∃ S1 defs dn, entA st round = some (S1, defs, dn) ∧
   (match H.call (.func gf) (first ++ [.yld S1.next] ++ cap) (S1.new (.loop { state := .ready, pending := none, fn := f, env := (st.masked (pol.keep f)).env.map AV.strip, params := ps.toList, assign := as, body := body, defers := dn })) with
    | none => none
    | some (.pan ch, S3) => some (AExit.pan ch, { st with S := S3, defs })
    | some (.ret _, S3) => match S3.get S1.next with
     | some (.loop r) =>
      if r.state = .busy then none else
      match r.pending with
      | none => some (AExit.normal, { st with S := S3.drop S1.next, defs })
      | some .ret => some (AExit.ret, { st with S := S3.drop S1.next, defs })
      | some (.exit j) => some (AExit.exit j, { st with S := S3.drop S1.next, defs })
      | some (.goto j) => some (AExit.goto j, { st with S := S3.drop S1.next, defs })
      | some _ => none
     | _ => none) = some (e, st') := by
   unfold entA
   cases round with
   | none => exact ⟨_, _, _, rfl, h⟩
   | some l =>
    simp only at h ⊢
    cases hgl : st.S.get l with
    | none => rw [hgl] at h; cases h
    | some o =>
     rw [hgl] at h
     cases o <;> simp only at h <;> first | cases h | exact ⟨_, _, _, rfl, h⟩
  obtain ⟨C2, mark, hrun, hx2, hS2, hD2, hid⟩ := enter_rel (P := P) hR (masked_rel hR hl (pol.keep f)).1.env hfn hrd hent (ps := ps) (as := as) (body := body)
  generalize hS0 : S1.new (.loop { state := .ready, pending := none, fn := f, env := (st.masked (pol.keep f)).env.map AV.strip, params := ps.toList, assign := as, body := body, defers := dn }) = S2 at *
  cases hcall : H.call (.func gf) (first ++ [.yld S1.next] ++ cap) S2 with
  | none => rw [hcall] at h; cases h
  | some eS =>
  obtain ⟨ee, S3⟩ := eS
  rw [hcall] at h
  have pl : ∀ {l : List AV} {i j : Nat} {cl : List Value}, ListRel C l none i cl → ListRel C2 l (some [(d + 1) + 2]) j cl := fun hh => ListRel.any _ _ _ _ _ (ListRel.mono hx2 _ none _ _ (Off.none _) hh)
  have hargs : ListRel C2 (first ++ [.yld S1.next] ++ cap) (some [(d + 1) + 2]) 0 (a' ++ [.func (.yield (C2.φ S1.next)) #[] #[]] ++ b') := by
   refine ListRel.append (ListRel.append (pl ha) ?_) (pl hb)
   simp only [ListRel, VRel]
   exact ⟨_, [], rfl, rfl, ⟨rfl, hid⟩, rfl⟩
  obtain ⟨nxt, fr, hnr, hnf, hcalls⟩ := hH.call hcall hS2 hargs
  have hres : (resolve (ev tmps) { callee := .value g, args := #[.const (.func (.yield (C2.φ S1.next)) #[] #[])], argTypes := #[] } 0).run P C2.w = .ok { target := .fn (.func gf) b'.toArray, args := a'.toArray ++ #[.func (.yield (C2.φ S1.next)) #[] #[]] } C2.w := by
   have e : resolve (ev tmps) { callee := .value g, args := #[.const (.func (.yield (C2.φ S1.next)) #[] #[])], argTypes := #[] } 0 = Deferred.ofValue (ev tmps g) #[.func (.yield (C2.φ S1.next)) #[] #[]] := by simp [resolve, Act.eval]
   rw [e, hc']
   rfl
  have hinv : (invoke (.fn (.func gf) b'.toArray) (a'.toArray ++ #[.func (.yield (C2.φ S1.next)) #[] #[]])).run P C2.w = .ok nxt C2.w := by
   have : invoke (.fn (.func gf) b'.toArray) (a'.toArray ++ #[.func (.yield (C2.φ S1.next)) #[] #[]]) = tgtSem C2 (Tgt.func gf) (a' ++ [Value.func (.yield (C2.φ S1.next)) #[] #[]] ++ b').toArray := by
    simp [invoke, tgtSem]
   rw [this]; exact hnr
  have hstep := stepA_range (b := b) (defers := defers) (k := k) (cm := cm) hrun hres hinv hnf
  obtain ⟨C3, hx3, hS3, hend⟩ := hcalls (b.at tmps (mark ++ defers) (.inRangeFunc (C2.φ S1.next) :: k)) (b.K cm)
  have hE2 : EnvRel C2 d st.env tmps := hR.env.mono hx2 (fun _ _ h => h)
  have hE3 : EnvRel C3 d st.env tmps := hE2.mono hx3 (fun t r h => by
   obtain ⟨x, r', he, h1⟩ := h
   simp at he
   omega)
  have hdeep : ∀ l, Deep (d + 1) l → Deep d l := by
   rintro l ⟨x, r, rfl, h1⟩
   exact ⟨x, r, rfl, by omega⟩
  have hx : Ext (Deep d) C C3 := (hx2.weaken (fun _ h => h.elim)).trans (hx3.weaken hdeep)
  have hP3 := hR.par.mono hx
  have hD3 := hD2.mono hx3
  cases ee with
  | pan ch =>
   simp only at h hend
   cases h
   obtain ⟨cch, hch, hst⟩ := hend
   exact ⟨C3, tmps, mark ++ defers, cm, hx, ⟨hE3, hS3, hD3, hP3⟩, .inl ⟨_, rfl⟩, cch, _, hch, Steps.head hstep hst⟩
  | ret v =>
   simp only at h hend
   obtain ⟨_, cv, _, hst⟩ := hend
   rw [finish_range] at hst
   split at h
   ·rename_i r hgr
    split at h
    ·cases h
    ·rename_i hnb
     obtain ⟨hi3, lp, l1, l2, l3, l4, l5, l6, l7, l8, l9, l10, l11⟩ := hS3.get hgr
     have hφ : C3.φ S1.next = C2.φ S1.next := (hx3.ids _ hid).1
     rw [hφ] at l1 l2
     have hel := run_endLoop (P := P) l1 (by rw [l3]; exact hnb)
     let C4 := C3.setO (C2.φ S1.next) (.loop { lp with state := .exhausted })
     have hx4 : Ext (fun l => l = [1, S1.next, 0]) C3 C4 := Ext.setO l1 rfl (fun j => ⟨l2 j, by rw [l2 j]; simp [froz]⟩)
     have hS4 : HeapRel C4 (S3.drop S1.next) := (hS3.drop S1.next).monoD hx4 rfl (fun i o ho r hr => by
      simp at hr
      exact (mem_drop hS3.nodup ho).1 hr.1) (setO_fresh hS3.fresh)
     have hx5 : Ext (Deep d) C C4 := hx.trans (hx4.weaken (fun l hl => by subst hl; exact ⟨1, [S1.next, 0], rfl, .inl rfl⟩))
     have hE4 : EnvRel C4 d st.env tmps := hE3.mono hx4 (fun t r h => by simp at h)
     have hR4 : FrRel C4 d b { st with S := S3.drop S1.next, defs } tmps (mark ++ defers) cm := ⟨hE4, hS4, hD3.mono hx4, hP3.mono hx4⟩
     have hgo : Steps P (b.mach tmps defers (.code (.rangeFunc g ps as body) :: k) cm C.w) (b.mach tmps (mark ++ defers) ((r.pending.map Item.code).toList ++ k) cm C4.w) := by
      refine Steps.head hstep (Steps.trans hst (.one ?_))
      rw [← l4]
      exact stepA_endRange (b := b) (tmps := tmps) (defers := mark ++ defers) (k := k) (cm := cm) hel
     split at h <;> first | cases h | skip
     ·rename_i hp
      rw [hp] at hgo
      exact ⟨C4, tmps, _, cm, hx5, hR4, .inr hl, hgo⟩
     ·rename_i hp
      rw [hp] at hgo
      exact ⟨C4, tmps, _, cm, hx5, hR4, .inr hl, _, hgo⟩
     ·rename_i j hp
      rw [hp] at hgo
      exact ⟨C4, tmps, _, cm, hx5, hR4, .inr hl, k, rfl, hgo⟩
     ·rename_i j hp
      rw [hp] at hgo
      exact ⟨C4, tmps, _, cm, hx5, hR4, .inr hl, k, rfl, hgo⟩
   ·cases h
 ·cases h
end Go.Ab
namespace Go.Ab
variable {P : Program} {C : Ctx} {n : Nat}
theorem code_ok (hF : Fine P) {H : Handler} (hH : HSound P H) {N : Nat} {pol : Pol} (hD : DrawOK P H pol) {f : FuncId} {round : Option Nat} (c : Code) : CodeOK P H N pol f round c := by
 induction c with
 | skip => intro st e st' h C d b tmps defers cm hfn hrd hrn hR hl k; unfold evCode at h; cases h; exact Goes.normal hR hl (.one stepA_skip)
 | label l => intro st e st' h C d b tmps defers cm hfn hrd hrn hR hl k; unfold evCode at h; cases h; exact Goes.normal hR hl (.one stepA_label)
 | region id ops draw =>
  intro st e st' h C d b tmps defers cm hfn hrd hrn hR hl k
  unfold evCode at h
  obtain ⟨C1, w1, r1, hl1, x1⟩ := preSt_ok pol f id hR hl
  cases draw with
  | true =>
   have := hD h hfn r1 hl1 k
   rw [w1] at this
   exact this.trans x1 (Steps.refl _ _)
  | false =>
   have := ops_ok hF hH _ h r1 (hl1.mono (by simp)) (k := k)
   rw [w1] at this
   exact this.trans x1 (.one stepA_region)
 | seq a b ha hb => exact seq_ok ha hb
 | cond c a b ha hb =>
  intro st e st' h C d bb tmps defers cm hfn hrd hrn hR hl k
  unfold evCode at h
  have hc := (opd_rel hR.env [] c none).1
  split at h
  ·rename_i hv
   rw [hv] at hc
   simp only [VRel] at hc
   exact (ha h hfn hrd hrn hR hl k).trans (Ext.refl _ _) (.one (stepA_cond (t := true) hc))
  ·rename_i hv
   rw [hv] at hc
   simp only [VRel] at hc
   exact (hb h hfn hrd hrn hR hl k).trans (Ext.refl _ _) (.one (stepA_cond (t := false) hc))
  ·cases h
 | block id c hc => exact block_ok hc
 | loop c hc => exact loop_ok hc
 | rangeFunc g ps as body _ _ => exact range_ok hH
 | exit id => intro st e st' h C d b tmps defers cm hfn hrd hrn hR hl k; unfold evCode at h; cases h; exact ⟨C, tmps, defers, cm, Ext.refl _ _, hR, .inr hl, k, rfl, Steps.refl _ _⟩
 | goto l => intro st e st' h C d b tmps defers cm hfn hrd hrn hR hl k; unfold evCode at h; cases h; exact ⟨C, tmps, defers, cm, Ext.refl _ _, hR, .inr hl, k, rfl, Steps.refl _ _⟩
 | ret => intro st e st' h C d b tmps defers cm hfn hrd hrn hR hl k; unfold evCode at h; cases h; exact ⟨C, tmps, defers, cm, Ext.refl _ _, hR, .inr hl, k, Steps.refl _ _⟩
 | scope c hc => exact scope_ok hH hc
 | refuse _ => intro st e st' h; unfold evCode at h; cases h
section steps
variable {b : FB} {tmps : Array Value} {k : List Item} {cm : FrameMode} {w : World} {c : Frame} {cs : List Frame}
theorem stepA_begin {defers : List Deferred} {l : Nat} {w' : World} (hr : b.rnd = some l) (h : (Instr.beginRound l).run P w = .ok () w') :
  step P (b.mach tmps defers (.beginRound :: k) cm w) = .next (b.mach tmps defers k cm w') :=
 step_lone_go (by simp [stepG, stepG.exec, stepG.apply, FB.at, hr, h, Frame.finish, Result.andThen])
theorem leave_end {l : Nat} {v : Value} {w' : World} (hr : b.rnd = some l) (hk : b.kind = .normal) (h : (Instr.endRound l none).run P w = .ok v w') :
  step P (lone (b.at tmps [] []) (c :: cs) w) = .next (lone (c.finish v) cs w') :=
 step_lone_go (by simp [stepG, stepG.exec, FB.at, hr, hk, Sem.runT_eq, h, GStep.bare_after, doReturn])
theorem leave_ret {l : Nat} {v : Value} {w' : World} (hr : b.rnd = some l) (hk : b.kind = .normal) (h : (Instr.endRound l (some .ret)).run P w = .ok v w') :
  step P (lone (b.at tmps [] (.code .ret :: k)) (c :: cs) w) = .next (lone (c.finish v) cs w') :=
 step_lone_go (by simp [stepG, stepG.exec, FB.at, hr, hk, Sem.runT_eq, h, GStep.bare_after, doReturn])
theorem leave_exit {l j : Nat} {v : Value} {w' : World} (hr : b.rnd = some l) (hk : b.kind = .normal) (he : exitTo j k = none) (h : (Instr.endRound l (some (.exit j))).run P w = .ok v w') :
  step P (lone (b.at tmps [] (.code (.exit j) :: k)) (c :: cs) w) = .next (lone (c.finish v) cs w') :=
 step_lone_go (by simp [stepG, stepG.exec, FB.at, hr, hk, he, Sem.runT_eq, h, GStep.bare_after, doReturn])
theorem leave_goto {l j : Nat} {v : Value} {w' : World} (hr : b.rnd = some l) (hk : b.kind = .normal) (he : gotoIn j k = none) (h : (Instr.endRound l (some (.goto j))).run P w = .ok v w') :
  step P (lone (b.at tmps [] (.code (.goto j) :: k)) (c :: cs) w) = .next (lone (c.finish v) cs w') :=
 step_lone_go (by simp [stepG, stepG.exec, FB.at, hr, hk, he, Sem.runT_eq, h, GStep.bare_after, doReturn])
theorem leave_pan {todo : List Item} {chain : List PanicEntry} (hf : (P.funcs[b.fn]?).isSome = true) :
  step P (lone { b.at tmps [] todo with mode := .panicking chain } (c :: cs) w) = .next (lone (c.raise chain) cs w) := by
 obtain ⟨fn, hfn⟩ := Option.isSome_iff_exists.1 hf
 exact step_lone_go (by simp [stepG, unwind, Frame.catches, FB.at, hfn])
end steps
theorem setAll_rel {d : Nat} : ∀ {ps : List Tmp} {as : List AV} {cs : List Value} {env : List AV} {tmps : Array Value}, EnvRel C d env tmps → ListRel C as none 0 cs → EnvRel C d (setAll env ps as) ((ps.zip cs).foldl (fun t x => t.setIfInBounds x.1 x.2) tmps)
 | [], as, cs, env, tmps, hE, _ => by simpa [setAll] using hE
 | p :: ps, [], cs, env, tmps, hE, hl => by
  simp only [ListRel] at hl
  subst hl
  simpa [setAll] using hE
 | p :: ps, a :: as, cs, env, tmps, hE, hl => by
  simp only [ListRel, sub, Option.map_none] at hl
  obtain ⟨c, cs', rfl, _, hv, hr⟩ := hl
  simp only [setAll, List.zip_cons_cons, List.foldl_cons]
  exact setAll_rel (hE.set p (VRel.any _ _ _ hv)) (ListRel.any _ _ _ _ _ hr)
theorem setAll_lp : ∀ {ps : List Tmp} {as : List AV} {env : List AV}, LpIn env [] → (∀ a ∈ as, isLp a = false) → LpIn (setAll env ps as) []
 | [], _, _, h, _ => by simpa [setAll] using h
 | _ :: _, [], _, h, _ => by simpa [setAll] using h
 | p :: ps, a :: as, env, h, ha => by
  simp only [setAll]
  exact setAll_lp (h.set (.inl (ha a (by simp)))) (fun x hx => ha x (by simp [hx]))
theorem list_env {d : Nat} {env : List AV} {tmps : Array Value} (h : ListRel C env none 0 tmps.toList) : EnvRel C d env tmps ∧ LpIn env [] := by
 refine ⟨⟨by have := h.length; simpa using this.symm, fun t v hv => ?_⟩, fun t s off ht => ?_⟩
 ·obtain ⟨c, hc, _, hr⟩ := h.getElem? t v hv
  exact ⟨c, by rw [Array.getElem?_toList] at hc; exact hc, VRel.any _ _ _ hr⟩
 ·obtain ⟨c, hc, hp, hr⟩ := h.getElem? t _ ht
  simp [isPl, isLp] at hp
theorem put_loop {S : Sto} (hS : HeapRel C S) {id : Nat} {r r' : ALoop} (hg : S.get id = some (.loop r)) {lp lp' : Loop} (h1 : C.w.heap[C.φ id]? = some (.loop lp)) (h2 : ∀ o, C.L (C.φ id) o = [1, id, 0])
  (hr : ∀ C' : Ctx, Ext (fun l => l = [1, id, 0]) C C' → C'.φ = C.φ → C'.n = C.n → lp'.state = r'.state ∧ lp'.pending = r'.pending ∧ lp'.fn = r'.fn ∧ lp'.params.toList = r'.params ∧ lp'.assign = r'.assign ∧ lp'.body = r'.body ∧ ListRel C' r'.env none 0 lp'.tmps.toList ∧ lp'.defers = C'.φ r'.defers ∧ r'.defers < C'.n) :
  HeapRel (C.setO (C.φ id) (.loop lp')) (S.put id (.loop r')) ∧ Ext (fun l => l = [1, id, 0]) C (C.setO (C.φ id) (.loop lp')) := by
 have hx : Ext (fun l => l = [1, id, 0]) C (C.setO (C.φ id) (.loop lp')) := Ext.setO h1 rfl (fun j => ⟨h2 j, by rw [h2 j]; simp [froz]⟩)
 have hlt := (Array.getElem?_eq_some_iff.1 h1).1
 refine ⟨hS.put hg hx rfl (fun i r hne e => by simp at e; exact hne e.1) (setO_fresh hS.fresh) ?_, hx⟩
 obtain ⟨a1, a2, a3, a4, a5, a6, a7, a8, a9⟩ := hr _ hx rfl rfl
 refine ⟨lp', ?_, h2, a1, a2, a3, a4, a5, a6, a7, a8, a9⟩
 show (C.w.heap.setIfInBounds (C.φ id) _)[C.φ id]? = _
 rw [Array.getElem?_setIfInBounds_self_of_lt hlt]
end Go.Ab
namespace Go.Ab
variable {P : Program} {C : Ctx} {n : Nat}
theorem DefRel.nil {cs : List Deferred} (h : DefRel C [] cs) : cs = [] := h
theorem yield_ok (hF : Fine P) {H : Handler} (hH : HSound P H) {N : Nat} {pol : Pol} (hD : DrawOK P H pol) {id : Nat} {args : List AV} {S : Sto} {e : AEnd} {S' : Sto} (h : runYield P H N pol id args S = some (e, S'))
  {d : Nat} {cargs : List Value} (hS : HeapRel C S) (ha : ListRel C args (some [d + 2]) 0 cargs) :
  ∃ nxt fr, (Instr.yield (C.φ id) cargs.toArray).run P C.w = .ok nxt C.w ∧ nextFrame P .normal nxt = some fr ∧ ∀ c cs, CallsTo P C d (lone fr (c :: cs) C.w) c cs e S' := by
 unfold runYield at h
 split at h
 ·rename_i r hg
  obtain ⟨hid, lp, l1, l2, l3, l4, l5, l6, l7, l8, l9, l10, l11⟩ := hS.get hg
  split at h
  ·rename_i hlen
   obtain ⟨hlen, hfnok⟩ := hlen
   have hcl : cargs.toArray.size = lp.params.size := by
    have := ha.length
    have h6 : lp.params.size = r.params.length := by rw [← l6]; simp
    simp; omega
   refine ⟨_, _, run_yield l1 hcl, rfl, fun c cs => ?_⟩
   let b : FB := { fn := r.fn, kind := .normal, rnd := some (C.φ id), K := fun _ => c :: cs, head := by intro h; cases h }
   obtain ⟨hE0, hl0⟩ := list_env (d := d) l9
   have has : ListRel C (args.map AV.strip) none 0 cargs := by
    refine ListRel.mk (by simp; exact ha.length) (fun j v cv hv hc => ?_)
    rw [List.getElem?_map] at hv
    cases hav : args[j]? with
    | none => rw [hav] at hv; cases hv
    | some u =>
     rw [hav] at hv; cases hv
     obtain ⟨c', hc', _, hr⟩ := ha.getElem? j u hav
     rw [hc] at hc'; cases hc'
     exact ⟨(hr.strip none).2, (hr.strip none).1⟩
   have hE : EnvRel C d (setAll r.env r.params (args.map AV.strip)) ((lp.params.zip cargs.toArray).foldl (fun tmps (t, a) => tmps.setIfInBounds t a) lp.tmps) := by
    have := setAll_rel (ps := r.params) hE0 has
    rw [← Array.foldl_toList, Array.toList_zip, l6]
    simpa using this
   generalize hT : ((lp.params.zip cargs.toArray).foldl (fun tmps (t, a) => tmps.setIfInBounds t a) lp.tmps) = T at hE
   have hR : FrRel C d b { env := setAll r.env r.params (args.map AV.strip), defs := [], par := .unk, S := S } T [] .returning := ⟨hE, hS, rfl, rfl, rfl⟩
   have hl : LpIn (setAll r.env r.params (args.map AV.strip)) [] := setAll_lp hl0 (fun a haa => by
    obtain ⟨u, _, rfl⟩ := List.mem_map.1 haa
    exact strip_lp u)
   have hm0 : lone (Frame.round (C.φ id) lp.fn T lp.assign lp.body .normal) (c :: cs) C.w = b.mach T [] (.code r.assign :: [.beginRound, .code r.body]) .returning C.w := by
    rw [l5, l7, l8]; rfl
   rw [hm0]
   split at h
   ·rename_i st hev
    obtain ⟨C1, t1, d1, c1, x1, hR1, hn1, ha1⟩ := code_ok hF hH hD r.assign hev (b := b) rfl rfl (fun l hl => by cases hl; exact hid) hR hl [.beginRound, .code r.body]
    have hl1 : LpIn st.env [] := hn1.resolve_left (by rintro ⟨ch, hc⟩; cases hc)
    split at h
    ·rename_i r1 hg1
     split at h
     ·rename_i hrdy
      obtain ⟨hde, hst1⟩ := hrdy
      obtain ⟨hid1, lp1, m1, m2, m3, m4, m5, m6, m7, m8, m9, m10, m11⟩ := hR1.heap.get hg1
      have hφ1 : C1.φ id = C.φ id := (x1.ids _ hid).1
      have hd1 : d1 = [] := by
       have := hR1.defs
       rw [List.isEmpty_iff.1 hde] at this
       exact this
      subst hd1
      have hbr := run_beginRound (P := P) m1 (by rw [m3]; exact hst1)
      rw [hφ1] at hbr
      obtain ⟨hS2, hx2⟩ := put_loop (r' := { r1 with state := .busy }) (lp' := { lp1 with state := .busy }) hR1.heap hg1 m1 m2 (fun C' hx hφ hn => ⟨rfl, m4, m5, m6, m7, m8, ListRel.mono hx _ none 0 _ (Off.none _) m9, by rw [hφ]; exact m10, by rw [hn]; exact m11⟩)
      have hdeepX : ∀ l, l = [1, id, 0] → Deep d l := fun l hl => by subst hl; exact ⟨1, [id, 0], rfl, .inl rfl⟩
      have hR2 : FrRel (C1.setO (C1.φ id) (.loop { lp1 with state := .busy })) d b { st with S := st.S.put id (.loop { r1 with state := .busy }) } t1 [] c1 :=
       ⟨hR1.env.mono hx2 (fun t r h => by simp at h), hS2, hR1.defs.mono hx2, hR1.par.mono hx2⟩
      have hw2 : (C1.setO (C1.φ id) (.loop { lp1 with state := .busy })).w = C1.w.putObj (C.φ id) (.loop { lp1 with state := .busy }) := by rw [hφ1]; rfl
      have x2 : Ext (Deep d) C (C1.setO (C1.φ id) (.loop { lp1 with state := .busy })) := x1.trans (hx2.weaken hdeepX)
      have hφ2 : (C1.setO (C1.φ id) (.loop { lp1 with state := .busy })).φ id = C.φ id := hφ1
      have hn2 : id < (C1.setO (C1.φ id) (.loop { lp1 with state := .busy })).n := hid1
      have hgo2 : Steps P (b.mach T [] (.code r.assign :: [.beginRound, .code r.body]) .returning C.w) (b.mach t1 [] [.code r.body] c1 (C1.setO (C1.φ id) (.loop { lp1 with state := .busy })).w) := by
       refine Steps.trans ha1 (.one ?_)
       rw [hw2]
       exact stepA_begin (b := b) rfl hbr
      generalize C1.setO (C1.φ id) (.loop { lp1 with state := .busy }) = C2 at *
      split at h
      ·rename_i x st2 hev2
       obtain ⟨C3, t3, d3, c3, x3, hR3, hn3, ha3⟩ := code_ok hF hH hD r.body hev2 (b := b) rfl (by rw [show b.rnd = some (C.φ id) from rfl]; simp [hφ2]) (fun l hl => by cases hl; exact hn2) hR2 hl1 []
       split at h
       ·rename_i r2 hg2
        split at h
        ·cases h
        ·rename_i hde2
         obtain ⟨hid3, lp3, p1, p2, p3, p4, p5, p6, p7, p8, p9, p10, p11⟩ := hR3.heap.get hg2
         have hφ3 : C3.φ id = C.φ id := (x3.ids _ hn2).1.trans hφ2
         have hd3 : d3 = [] := by
          have := hR3.defs
          have he : st2.defs = [] := by simpa using hde2
          rw [he] at this
          exact this
         subst hd3
         have xx : Ext (Deep d) C C3 := x2.trans x3
         have fin : ∀ (j : Option Code), (∀ v w', (Instr.endRound (C.φ id) j).run P C3.w = .ok v w' → Steps P (b.mach T [] (.code r.assign :: [.beginRound, .code r.body]) .returning C.w) (lone (c.finish v) cs w')) →
           e = .ret (.bool j.isNone) → S' = st2.S.put id (.loop { r2 with state := if j.isNone then .ready else .done, pending := j }) → CallsTo P C d (b.mach T [] (.code r.assign :: [.beginRound, .code r.body]) .returning C.w) c cs e S' := by
          intro j hgo he hs
          subst he; subst hs
          obtain ⟨hS4, hx4⟩ := put_loop (r' := { r2 with state := if j.isNone then .ready else .done, pending := j }) (lp' := { lp3 with state := if j.isNone then .ready else .done, pending := j }) hR3.heap hg2 p1 p2
           (fun C' hx hφ hn => ⟨rfl, rfl, p5, p6, p7, p8, ListRel.mono hx _ none 0 _ (Off.none _) p9, by rw [hφ]; exact p10, by rw [hn]; exact p11⟩)
          have her := run_endRound (P := P) j p1
          rw [hφ3] at her
          refine ⟨_, xx.trans (hx4.weaken hdeepX), hS4, rfl, .bool j.isNone, by simp only [VRel], ?_⟩
          have := hgo _ _ her
          rw [hφ3]
          exact this
         cases x with
         | normal =>
          cases h
          exact fin none (fun v w' her => hgo2.trans (Steps.trans ha3 (.one (leave_end (b := b) rfl rfl her)))) rfl rfl
         | ret =>
          cases h
          obtain ⟨k0, hk0⟩ := ha3
          exact fin (some .ret) (fun v w' her => hgo2.trans (Steps.trans hk0 (.one (leave_ret (b := b) rfl rfl her)))) rfl rfl
         | exit j =>
          cases h
          obtain ⟨k0, he0, hk0⟩ := ha3
          exact fin (some (.exit j)) (fun v w' her => hgo2.trans (Steps.trans hk0 (.one (leave_exit (b := b) rfl rfl (by rw [he0]; rfl) her)))) rfl rfl
         | goto j =>
          cases h
          obtain ⟨k0, he0, hk0⟩ := ha3
          exact fin (some (.goto j)) (fun v w' her => hgo2.trans (Steps.trans hk0 (.one (leave_goto (b := b) rfl rfl (by rw [he0]; rfl) her)))) rfl rfl
         | pan ch =>
          cases h
          obtain ⟨cch, todo, hch, hk0⟩ := ha3
          exact ⟨C3, xx, hR3.heap, cch, hch, hgo2.trans (Steps.trans hk0 (.one (leave_pan (b := b) hfnok)))⟩
       ·cases h
      ·cases h
     ·cases h
    ·cases h
   ·cases h
  ·cases h
 ·cases h
end Go.Ab
namespace Go.Ab
variable {P : Program} {C : Ctx} {n : Nat}
theorem ModeRel.not_run {m : AMode} {fm : FrameMode} (h : ModeRel C m fm) : fm ≠ .run := by
 cases m with
 | none => exact h.elim
 | unk => exact h.elim
 | returning => intro e; rw [e] at h; cases h
 | panicking ch => obtain ⟨_, h, _⟩ := h; intro e; rw [e] at h; cases h
theorem step_coll {u : Frame} {cs : List Frame} {w w' : World} {blk : Nat} {ds calls : List Deferred} (hm : u.mode ≠ .run) (hd : u.defers = { target := .collected blk, args := #[] } :: ds) (hr : (Instr.takeDeferred blk).run P w = .ok calls w') :
  step P (lone u cs w) = .next (lone { u with defers := calls ++ ds } cs w') := by
 refine step_lone_go ?_
 cases hmm : u.mode with
 | run => exact absurd hmm hm
 | returning => simp [stepG, hmm, unwind, hd, Sem.runT_eq, hr, GStep.bare_after]
 | panicking ch => simp [stepG, hmm, unwind, hd, Sem.runT_eq, hr, GStep.bare_after]
theorem step_calld {u : Frame} {cs : List Frame} {w : World} {g : FuncId} {cap args : Array Value} {ds : List Deferred} (hm : u.mode ≠ .run) (hd : u.defers = { target := .fn (.func g) cap, args := args } :: ds)
  (hr : (callFunc g (args ++ cap)).run P w = .ok (.enter g (args ++ cap)) w) :
  step P (lone u cs w) = .next (lone (Frame.enter P g (args ++ cap) .deferred) ({ u with defers := ds } :: cs) w) := by
 refine step_lone_go ?_
 cases hmm : u.mode with
 | run => exact absurd hmm hm
 | returning => simp [stepG, hmm, unwind, hd, callDeferred, invoke, Sem.runT_eq, hr, GStep.bare_after]
 | panicking ch => simp [stepG, hmm, unwind, hd, callDeferred, invoke, Sem.runT_eq, hr, GStep.bare_after]
theorem unwind_ok {H : Handler} (hH : HSound P H) {d : Nat} : ∀ {ds : List ADef} {m m' : AMode} {S S' : Sto} {C : Ctx} {u : Frame} {cs : List Frame}, unwindA H ds m S = some (m', S') → HeapRel C S → DefRel C ds u.defers → ModeRel C m u.mode →
  ∃ C' fm, Ext (Deep d) C C' ∧ HeapRel C' S' ∧ ModeRel C' m' fm ∧ Steps P (lone u cs C.w) (lone { u with defers := [], mode := fm } cs C'.w)
 | [], m, m', S, S', C, u, cs, h, hS, hD, hM => by
  unfold unwindA at h
  cases h
  have hd : u.defers = [] := hD
  refine ⟨C, u.mode, Ext.refl _ _, hS, hM, ?_⟩
  have : ({ u with defers := [], mode := u.mode } : Frame) = u := by cases u; simp at hd; subst hd; rfl
  rw [this]
  exact Steps.refl _ _
 | ⟨.coll id, args⟩ :: ds, m, m', S, S', C, u, cs, h, hS, hD, hM => by
  unfold unwindA at h
  obtain ⟨cs', hd, _, hid, hD'⟩ := hD
  split at h
  ·rename_i hg
   obtain ⟨_, h1, h2⟩ := hS.get hg
   have hx : Ext (fun l => l = [1, id, 0]) C (C.setO (C.φ id) (.deferred none)) := Ext.setO h1 rfl (fun j => ⟨h2 j, by rw [h2 j]; simp [froz]⟩)
   have hS1 : HeapRel (C.setO (C.φ id) (.deferred none)) (S.drop id) := (hS.drop id).monoD hx rfl (fun i o ho r hr => by
    simp at hr
    exact (mem_drop hS.nodup ho).1 hr.1) (setO_fresh hS.fresh)
   have hst := step_coll (P := P) (cs := cs) hM.not_run hd (run_takeDeferred (P := P) h1)
   have hM1 : ModeRel (C.setO (C.φ id) (.deferred none)) m u.mode := by
    cases m <;> simp only [ModeRel] at hM ⊢ <;> try exact hM
    obtain ⟨cch, e, hc⟩ := hM
    exact ⟨cch, e, hc.mono hx⟩
   obtain ⟨C', fm, k1, k2, k3, k4⟩ := unwind_ok hH (d := d) (C := C.setO (C.φ id) (.deferred none)) (u := { u with defers := cs' }) (cs := cs) h hS1 (hD'.mono hx) hM1
   exact ⟨C', fm, (hx.weaken (fun l hl => by subst hl; exact ⟨1, [id, 0], rfl, .inl rfl⟩)).trans k1, k2, k3, Steps.head hst k4⟩
  ·cases h
 | ⟨.fn f cap, args⟩ :: ds, m, m', S, S', C, u, cs, h, hS, hD, hM => by
  obtain ⟨cap', args', cs', hd, hy, hc, ha, hD'⟩ := hD
  cases f with
  | func g =>
   unfold unwindA at h
   have hl : ListRel C (args ++ cap) none 0 (args' ++ cap') := ListRel.append ha (ListRel.plain hc)
   cases hcd : H.callD g (args ++ cap) m S with
   | none => rw [hcd] at h; cases h
   | some r =>
    obtain ⟨e, m1, S1⟩ := r
    obtain ⟨hrun, hgo⟩ := hH.callD hcd (d := d) (u := { u with defers := cs' }) hS hl hM
    obtain ⟨C1, um, x1, hS1, hM1, hst⟩ := hgo cs
    have he : args'.toArray ++ cap'.toArray = (args' ++ cap').toArray := by simp
    have hstep := step_calld (P := P) (cs := cs) hM.not_run hd (by rw [he]; exact hrun)
    rw [he] at hstep
    have go : ∀ {mm : AMode}, ModeRel C1 mm um → unwindA H ds mm S1 = some (m', S') → ∃ C' fm, Ext (Deep d) C C' ∧ HeapRel C' S' ∧ ModeRel C' m' fm ∧ Steps P (lone u cs C.w) (lone { u with defers := [], mode := fm } cs C'.w) := by
     intro mm hmm hun
     obtain ⟨C', fm, k1, k2, k3, k4⟩ := unwind_ok hH (d := d) (C := C1) (u := { u with defers := cs', mode := um }) (cs := cs) hun hS1 (hD'.mono x1) hmm
     exact ⟨C', fm, x1.trans k1, k2, k3, Steps.head hstep (Steps.trans hst k4)⟩
    rw [hcd] at h
    cases e with
    | ret v => exact go hM1 h
    | pan ch => exact go hM1 h
  | _ => unfold unwindA at h; cases h
end Go.Ab
