/- Joining image files in the program answers as joining them in the document does, whatever the two files (pomanderlaw21.ImageJoins). No conditions. -/
import Derived.Test.YtooahmehpnbfgaaP03
namespace Go.Ab
theorem look_putIn_self {id : Nat} {o o' : Obj} : ∀ {h : List (Nat × Obj)}, Sto.look id h = some o' → Sto.look id (Sto.putIn id o h) = some o
 | [], h => by cases h
 | (i, x) :: r, h => by
  by_cases e : i = id
  ·simp [Sto.putIn, Sto.look, e]
  ·have : Sto.look id r = some o' := by simpa [Sto.look, e] using h
   simp [Sto.putIn, Sto.look, e, look_putIn_self this]
theorem look_putIn_ne {id id' : Nat} {o : Obj} (hne : id ≠ id') : ∀ {h : List (Nat × Obj)}, Sto.look id (Sto.putIn id' o h) = Sto.look id h
 | [] => rfl
 | (i, x) :: r => by
  by_cases e : i = id'
  ·subst e
   simp [Sto.putIn, Sto.look, Ne.symm hne]
  ·simp only [Sto.putIn, if_neg e, Sto.look, look_putIn_ne hne]
theorem putIn_putIn {id : Nat} {o o' : Obj} : ∀ {h : List (Nat × Obj)}, Sto.putIn id o (Sto.putIn id o' h) = Sto.putIn id o h
 | [] => rfl
 | (i, x) :: r => by
  by_cases e : i = id
  ·simp [Sto.putIn, e]
  ·simp [Sto.putIn, e, putIn_putIn]
theorem putIn_look {id : Nat} {o : Obj} : ∀ {h : List (Nat × Obj)}, Sto.look id h = some o → Sto.putIn id o h = h
 | [], h => by cases h
 | (i, x) :: r, h => by
  by_cases e : i = id
  ·subst e
   simp [Sto.look] at h
   simp [Sto.putIn, h]
  ·have : Sto.look id r = some o := by simpa [Sto.look, e] using h
   simp [Sto.putIn, e, putIn_look this]
theorem putIn_none {id : Nat} {o : Obj} : ∀ {h : List (Nat × Obj)}, Sto.look id h = none → Sto.putIn id o h = h
 | [], _ => rfl
 | (i, x) :: r, h => by
  by_cases e : i = id
  ·simp [Sto.look, e] at h
  ·have : Sto.look id r = none := by simpa [Sto.look, e] using h
   simp [Sto.putIn, e, putIn_none this]
theorem get_put_self {S : Sto} {id : Nat} {o o' : Obj} (h : S.get id = some o') : (S.put id o).get id = some o := look_putIn_self h
theorem get_put_ne {S : Sto} {id id' : Nat} {o : Obj} (h : id ≠ id') : (S.put id' o).get id = S.get id := look_putIn_ne h
theorem put_put (S : Sto) (id : Nat) (o o' : Obj) : (S.put id o').put id o = S.put id o := by simp [Sto.put, putIn_putIn]
theorem put_self {S : Sto} {id : Nat} {o : Obj} (h : S.get id = some o) : S.put id o = S := by
 have : Sto.putIn id o S.heap = S.heap := putIn_look h
 simp [Sto.put, this]
theorem get_new_self (S : Sto) (o : Obj) : (S.new o).get S.next = some o := by simp [Sto.new, Sto.get, Sto.look]
theorem get_new_ne {S : Sto} {o : Obj} {id : Nat} (h : id ≠ S.next) : (S.new o).get id = S.get id := by simp [Sto.new, Sto.get, Sto.look, Ne.symm h]
theorem next_new (S : Sto) (o : Obj) : (S.new o).next = S.next + 1 := (rfl)
theorem next_put (S : Sto) (id : Nat) (o : Obj) : (S.put id o).next = S.next := (rfl)
def goodO : Obj → Bool
 | .cells cs => sameL cs cs
 | .arr _ rows => sameR rows rows
 | _ => true
structure SOK (S : Sto) : Prop where
 lt : ∀ p ∈ S.heap, p.1 < S.next
 nd : (S.heap.map (·.1)).Nodup
 ok : ∀ p ∈ S.heap, goodO p.2 = true
theorem look_mem : ∀ {h : List (Nat × Obj)} {p : Nat × Obj}, (h.map (·.1)).Nodup → p ∈ h → Sto.look p.1 h = some p.2
 | [], p, _, hp => by cases hp
 | (i, o) :: r, p, hn, hp => by
  simp only [List.map_cons, List.nodup_cons] at hn
  rcases List.mem_cons.1 hp with rfl | hp
  ·simp [Sto.look]
  ·have hne : ¬ i = p.1 := fun e => hn.1 (e ▸ List.mem_map_of_mem hp)
   simp only [Sto.look, if_neg hne]
   exact look_mem hn.2 hp
theorem putIn_ids (id : Nat) (o : Obj) : ∀ h : List (Nat × Obj), (Sto.putIn id o h).map (·.1) = h.map (·.1)
 | [] => rfl
 | (i, x) :: r => by
  by_cases e : i = id
  ·simp [Sto.putIn, e]
  ·simp only [Sto.putIn, if_neg e, List.map_cons, putIn_ids id o r]
theorem putIn_mem {id : Nat} {o : Obj} : ∀ {h : List (Nat × Obj)} {p : Nat × Obj}, p ∈ Sto.putIn id o h → p ∈ h ∨ p.2 = o
 | [], p, hp => by cases hp
 | (i, x) :: r, p, hp => by
  by_cases e : i = id
  ·simp only [Sto.putIn, if_pos e] at hp
   rcases List.mem_cons.1 hp with rfl | hp
   ·exact .inr rfl
   ·exact .inl (List.mem_cons_of_mem _ hp)
  ·simp only [Sto.putIn, if_neg e] at hp
   rcases List.mem_cons.1 hp with rfl | hp
   ·exact .inl (List.mem_cons_self ..)
   ·exact (putIn_mem hp).imp (List.mem_cons_of_mem _) (fun e => e)
theorem dropIn_sub (id : Nat) : ∀ h : List (Nat × Obj), (Sto.dropIn id h).Sublist h
 | [] => List.Sublist.slnil
 | (i, x) :: r => by
  by_cases e : i = id
  ·simp only [Sto.dropIn, if_pos e]; exact List.sublist_cons_self _ _
  ·simp only [Sto.dropIn, if_neg e]; exact (dropIn_sub id r).cons_cons _
theorem SOK.nil (n : Nat) : SOK { heap := [], next := n } := ⟨by simp, by simp, by simp⟩
theorem SOK.new {S : Sto} {o : Obj} (h : SOK S) (ho : goodO o = true) : SOK (S.new o) := by
 refine ⟨fun p hp => ?_, ?_, fun p hp => ?_⟩
 ·rcases List.mem_cons.1 hp with rfl | hp
  ·exact Nat.lt_succ_self _
  ·exact Nat.lt_succ_of_lt (h.lt p hp)
 ·show (S.next :: S.heap.map (·.1)).Nodup
  refine List.nodup_cons.2 ⟨fun hm => ?_, h.nd⟩
  obtain ⟨p, hp, e⟩ := List.mem_map.1 hm
  have := h.lt p hp
  omega
 ·rcases List.mem_cons.1 hp with rfl | hp
  ·exact ho
  ·exact h.ok p hp
theorem SOK.put {S : Sto} {id : Nat} {o : Obj} (h : SOK S) (ho : goodO o = true) : SOK (S.put id o) := by
 refine ⟨fun p hp => ?_, ?_, fun p hp => ?_⟩
 ·have hm : p.1 ∈ (Sto.putIn id o S.heap).map (·.1) := List.mem_map_of_mem hp
  rw [putIn_ids] at hm
  obtain ⟨q, hq, e⟩ := List.mem_map.1 hm
  rw [← e]; exact h.lt q hq
 ·show ((Sto.putIn id o S.heap).map (·.1)).Nodup
  rw [putIn_ids]; exact h.nd
 ·rcases putIn_mem hp with hp | e
  ·exact h.ok p hp
  ·rw [e]; exact ho
theorem SOK.drop {S : Sto} (id : Nat) (h : SOK S) : SOK (S.drop id) :=
 ⟨fun p hp => h.lt p ((dropIn_sub id S.heap).subset hp), h.nd.sublist ((dropIn_sub id S.heap).map _), fun p hp => h.ok p ((dropIn_sub id S.heap).subset hp)⟩
theorem look_dropIn_ne {id id' : Nat} (hne : id ≠ id') : ∀ {h : List (Nat × Obj)}, Sto.look id (Sto.dropIn id' h) = Sto.look id h
 | [] => rfl
 | (i, x) :: r => by
  by_cases e : i = id'
  ·subst e
   simp [Sto.dropIn, Sto.look, Ne.symm hne]
  ·simp only [Sto.dropIn, if_neg e, Sto.look, look_dropIn_ne hne]
theorem get_drop_ne {S : Sto} {id id' : Nat} (h : id ≠ id') : (S.drop id').get id = S.get id := look_dropIn_ne h
theorem next_drop (S : Sto) (id : Nat) : (S.drop id).next = S.next := rfl
structure Grew (x : List Nat) (S S' : Sto) : Prop where
 get : ∀ id, id < S.next → id ∉ x → S'.get id = S.get id
 next : S.next ≤ S'.next
 sok : SOK S → SOK S'
theorem Grew.refl (x : List Nat) (S : Sto) : Grew x S S := ⟨fun _ _ _ => rfl, Nat.le_refl _, id⟩
theorem Grew.trans {x : List Nat} {S S' S'' : Sto} (h : Grew x S S') (h' : Grew x S' S'') : Grew x S S'' :=
 ⟨fun id hi hx => (h'.get id (Nat.lt_of_lt_of_le hi h.next) hx).trans (h.get id hi hx), Nat.le_trans h.next h'.next, fun hk => h'.sok (h.sok hk)⟩
theorem Grew.new (x : List Nat) (S : Sto) (o : Obj) (ho : goodO o = true) : Grew x S (S.new o) := ⟨fun _ hi _ => get_new_ne (by omega), by simp [next_new], fun hk => hk.new ho⟩
theorem Grew.put {x : List Nat} (S : Sto) {id : Nat} (o : Obj) (h : id ∈ x ∨ S.next ≤ id) (ho : goodO o = true) : Grew x S (S.put id o) :=
 ⟨fun i hi hx => get_put_ne (h.elim (fun h e => hx (e ▸ h)) (fun h => by omega)), Nat.le_refl _, fun hk => hk.put ho⟩
theorem Grew.drop {x : List Nat} (S : Sto) {id : Nat} (h : id ∈ x ∨ S.next ≤ id) : Grew x S (S.drop id) :=
 ⟨fun i hi hx => get_drop_ne (h.elim (fun h e => hx (e ▸ h)) (fun h => by omega)), Nat.le_refl _, fun hk => hk.drop id⟩
theorem Grew.mono {x y : List Nat} {S S' : Sto} (h : Grew x S S') (hx : ∀ a ∈ x, a ∈ y ∨ S.next ≤ a) : Grew y S S' :=
 ⟨fun id hi hy => h.get id hi (fun e => (hx id e).elim hy (fun h => by omega)), h.next, h.sok⟩
theorem Grew.mono' {x y : List Nat} {S S' : Sto} (h : Grew x S S') (hx : ∀ a ∈ x, a ∈ y) : Grew y S S' := h.mono fun a ha => .inl (hx a ha)
theorem Grew.late {x : List Nat} {S0 S S' : Sto} {id : Nat} (h0 : Grew x S0 S) (h : Grew (id :: x) S S') (hid : S0.next ≤ id) : Grew x S0 S' :=
 ⟨fun i hi hx => (h.get i (Nat.lt_of_lt_of_le hi h0.next) (by simp only [List.mem_cons, not_or]; exact ⟨by omega, hx⟩)).trans (h0.get i hi hx), Nat.le_trans h0.next h.next, fun hk => h.sok (h0.sok hk)⟩
theorem Grew.behind {S0 S S' : Sto} {x : List Nat} (h0 : Grew [] S0 S) (h : Grew x S S') (hx : ∀ a ∈ x, S0.next ≤ a) : Grew [] S0 S' :=
 ⟨fun i hi _ => (h.get i (Nat.lt_of_lt_of_le hi h0.next) (fun hm => by have := hx i hm; omega)).trans (h0.get i hi (by simp)), Nat.le_trans h0.next h.next, fun hk => h.sok (h0.sok hk)⟩
theorem same_grew {S S' : Sto} (hk : SOK S) (h : Grew [] S S') : sameOld S S' = true := by
 unfold sameOld
 rw [List.all_eq_true]
 intro p hp
 obtain ⟨i, o⟩ := p
 have hg : S'.get i = some o := (h.get i (hk.lt _ hp) (by simp)).trans (look_mem hk.nd hp)
 have ho := hk.ok _ hp
 cases o <;> simp only [goodO] at ho ⊢ <;> simp [hg, ho]
theorem sK_grew {α : Type} {S S' : Sto} (hk : SOK S) (h : Grew [] S S') (x : Option α) : sK false S S' x = x := sK_same (same_grew hk h) x
theorem sK_self {α : Type} {S : Sto} (hk : SOK S) (x : Option α) : sK false S S x = x := sK_grew hk (Grew.refl _ _) x
theorem sameL_nil : sameL [] [] = true := by simp [sameL]
theorem sameL_cons (a b : AV) (as bs : List AV) : sameL (a :: as) (b :: bs) = (AV.same a b && sameL as bs) := by simp [sameL]
theorem same_unk : AV.same .unk .unk = true := by simp [AV.same]
theorem same_bool (b : Bool) : AV.same (.bool b) (.bool b) = true := by simp [AV.same]
theorem same_int (k : IntKind) (a : Int) : AV.same (.int k a) (.int k a) = true := by simp [AV.same]
theorem same_str (s : List UInt8) : AV.same (.str s) (.str s) = true := by simp [AV.same]
theorem same_ptr (a b : Nat) : AV.same (.ptr a b) (.ptr a b) = true := by simp [AV.same]
theorem same_nilptr : AV.same .nilptr .nilptr = true := by simp [AV.same]
theorem same_nilsl : AV.same .nilsl .nilsl = true := by simp [AV.same]
theorem same_niliface : AV.same .niliface .niliface = true := by simp [AV.same]
theorem same_nilfn : AV.same .nilfn .nilfn = true := by simp [AV.same]
theorem same_rsl (a b c d : Nat) : AV.same (.rsl a b c d) (.rsl a b c d) = true := by simp [AV.same]
theorem sameR_map {X : Type} {g : X → List AV} (h : ∀ x, sameL (g x) (g x) = true) : ∀ l : List X, sameR (l.map g) (l.map g) = true
 | [] => by simp [sameR]
 | x :: l => by simp only [List.map_cons, sameR, h x, sameR_map h l, Bool.and_self]
theorem same_sl {X : Type} {g : X → List AV} (o : Bool) (e : Nat) (h : ∀ x, sameL (g x) (g x) = true) (l : List X) : AV.same (.sl o e (l.map g)) (.sl o e (l.map g)) = true := by
 simp [AV.same, sameR_map h l]
theorem same_sv {X : Type} {g : X → List AV} (o : Bool) (e : Nat) (h : ∀ x, sameL (g x) (g x) = true) (l : Option (List X)) : AV.same (sv o e g l) (sv o e g l) = true := by
 cases l with
 | none => exact same_nilsl
 | some l => exact same_sl o e h l
theorem good_cells (cs : List AV) : goodO (.cells cs) = sameL cs cs := (rfl)
theorem good_arr (e : Nat) (rows : List (List AV)) : goodO (.arr e rows) = sameR rows rows := (rfl)
theorem good_loop (l : ALoop) : goodO (.loop l) = true := (rfl)
theorem good_deferred : goodO .deferred = true := (rfl)
theorem good_siter (s : ByteArray) (p : Nat) : goodO (.siter s p) = true := (rfl)
attribute [simp] sameL_nil sameL_cons same_unk same_bool same_int same_str same_ptr same_nilptr same_nilsl same_niliface same_nilfn same_rsl good_cells good_arr good_loop good_deferred good_siter next_drop
attribute [simp] put_put get_new_self next_new next_put
end Go.Ab
namespace Go.Ab
theorem first_or_all (p : Nat → Prop) : ∀ n, (∃ m, m < n ∧ p m ∧ ∀ k, k < m → ¬ p k) ∨ ∀ k, k < n → ¬ p k
 | 0 => .inr fun _ h => absurd h (Nat.not_lt_zero _)
 | n + 1 => by
  rcases first_or_all p n with ⟨m, h1, h2, h3⟩ | h
  ·exact .inl ⟨m, by omega, h2, h3⟩
  ·by_cases hp : p n
   ·exact .inl ⟨n, by omega, hp, h⟩
   ·refine .inr fun k hk => ?_
    by_cases e : k = n
    ·rw [e]; exact hp
    ·exact h k (by omega)
end Go.Ab
namespace Go.Ab
def cntT (t : Tmp) : List Tmp → Nat
 | [] => 0
 | u :: r => (bif u == t then 1 else 0) + cntT t r
theorem cntT_eq (t : Tmp) : ∀ l : List Tmp, l.count t = cntT t l
 | [] => rfl
 | u :: r => by
  rw [List.count_cons, cntT_eq t r, cntT]
  cases (u == t) <;> simp [Nat.add_comm]
def argT (n : Nat) (v : AV) : AV := match n with | 1 => v.clr | _ => v.strip
def argsL (env : List AV) (ts : List Tmp) : List Operand → List AV
 | [] => []
 | .tmp t :: r => argT (cntT t ts) (getT env t) :: argsL env ts r
 | x :: r => opd env x :: argsL env ts r
theorem argsA_eq (env : List AV) (l : List Operand) : argsA env l = argsL env (tmpsOf l) l := by
 unfold argsA
 suffices h : ∀ r, r.map (fun x => if sole l x then opt env x else opd env x) = argsL env (tmpsOf l) r from h l
 intro r
 induction r with
 | nil => rfl
 | cons x r ih =>
  rw [List.map_cons, ih]
  cases x <;> try rfl
  rename_i t
  simp only [sole, argsL, argT, cntT_eq, opt_tmp, opd_tmp]
  by_cases h : cntT t (tmpsOf l) = 1
  ·simp [h]
  ·have : (cntT t (tmpsOf l) == 1) = false := by simpa using h
   rw [this]
   congr 1
   generalize cntT t (tmpsOf l) = c at h
   match c, h with
   | 0, _ => rfl
   | 1, h => exact absurd rfl h
   | _ + 2, _ => rfl
theorem argsL_nil (env : List AV) (ts : List Tmp) : argsL env ts [] = [] := (rfl)
theorem argsL_tmp (env : List AV) (ts : List Tmp) (t : Tmp) (r : List Operand) : argsL env ts (.tmp t :: r) = argT (cntT t ts) (getT env t) :: argsL env ts r := (rfl)
theorem argsL_const (env : List AV) (ts : List Tmp) (v : Value) (r : List Operand) : argsL env ts (.const v :: r) = AV.ofConst v :: argsL env ts r := (rfl)
theorem argsL_func (env : List AV) (ts : List Tmp) (g : FuncId) (r : List Operand) : argsL env ts (.func g :: r) = .fn (.func g) [] [] :: argsL env ts r := (rfl)
theorem argT_one (v : AV) : argT 1 v = v.clr := (rfl)
theorem argT_more (n : Nat) (v : AV) : argT (n + 2) v = v.strip := (rfl)
theorem cntT_nil (t : Tmp) : cntT t [] = 0 := (rfl)
theorem cntT_cons (t u : Tmp) (r : List Tmp) : cntT t (u :: r) = (bif u == t then 1 else 0) + cntT t r := (rfl)
attribute [simp] argsA_eq argsL_nil argsL_tmp argsL_const argsL_func argT_one argT_more cntT_nil cntT_cons
end Go.Ab
namespace Go.Ab
variable {P : Program}
theorem bound_none (d : Nat) : boundA d none = some d := (rfl)
theorem bound_cast (d : Nat) (k : IntKind) (n : Nat) : boundA d (some (.int k n)) = some n := by simp [boundA]
theorem slice_lo {t e : TypeId} {own : Bool} {es : Nat} {rows : List (List AV)} {k : Nat} {kk : IntKind} (ht : P.underlying t = some (.slice e)) (he : P.cellsOf e = es) (h : k ≤ rows.length) :
  sliceA P t (.sl own es rows) (some (.int kk k)) none none = some (.sl own es (rows.drop k)) := by
 simp only [sliceA, ht, bound_none, bound_cast]
 rw [if_pos ⟨h, Nat.le_refl _, he.symm⟩]
 simp
theorem slice_hi {t e : TypeId} {own : Bool} {es : Nat} {rows : List (List AV)} {k : Nat} {kk : IntKind} (ht : P.underlying t = some (.slice e)) (he : P.cellsOf e = es) (h : k ≤ rows.length) :
  sliceA P t (.sl own es rows) none (some (.int kk k)) none = some (.sl (own && (k == rows.length)) es (rows.take k)) := by
 simp only [sliceA, ht, bound_none, bound_cast]
 rw [if_pos ⟨Nat.zero_le _, h, he.symm⟩]
 simp
theorem slice_hi3 {t e : TypeId} {own : Bool} {es : Nat} {rows : List (List AV)} {k : Nat} {kk kl : IntKind} (ht : P.underlying t = some (.slice e)) (he : P.cellsOf e = es) (h : k ≤ rows.length) :
  sliceA P t (.sl own es rows) none (some (.int kk k)) (some (.int kl k)) = some (.sl (own || k == 0) es (rows.take k)) := by
 simp only [sliceA, ht, bound_none, bound_cast]
 rw [if_pos ⟨Nat.zero_le _, h, he.symm⟩]
 simp
theorem slice_lohi {t e : TypeId} {own : Bool} {es : Nat} {rows : List (List AV)} {k l : Nat} {kk kl : IntKind} (ht : P.underlying t = some (.slice e)) (he : P.cellsOf e = es) (h : k ≤ rows.length) (hl : l ≤ k) :
  sliceA P t (.sl own es rows) (some (.int kl l)) (some (.int kk k)) none = some (.sl (own && (k == rows.length)) es ((rows.take k).drop l)) := by
 simp only [sliceA, ht, bound_cast]
 rw [if_pos ⟨hl, h, he.symm⟩]
end Go.Ab
namespace Go.Ab
def famK {ι : Type} (keep : Option (List Bool)) (E : ι → St) (T : ι → AExit × St → Prop) (μ : ι → Nat) (i : ι) (r : Option (AExit × St)) : Prop := match r with
 | some (.normal, st') => ∃ j, μ j < μ i ∧ st'.masked keep = E j ∧ ∀ r, T j r → T i r
 | some r => T i r
 | none => False
section
variable {ι : Type} {keep : Option (List Bool)} {E : ι → St} {T : ι → AExit × St → Prop} {μ : ι → Nat} {i : ι}
@[congr] theorem famK_congr {r r' : Option (AExit × St)} (h : r = r') : famK keep E T μ i r = famK keep E T μ i r' := by rw [h]
theorem famK_normal (st' : St) : famK keep E T μ i (some (.normal, st')) = ∃ j, μ j < μ i ∧ st'.masked keep = E j ∧ ∀ r, T j r → T i r := (rfl)
theorem famK_ret (st' : St) : famK keep E T μ i (some (.ret, st')) = T i (.ret, st') := (rfl)
theorem famK_exit (k : Nat) (st' : St) : famK keep E T μ i (some (.exit k, st')) = T i (.exit k, st') := (rfl)
theorem famK_goto (k : Nat) (st' : St) : famK keep E T μ i (some (.goto k, st')) = T i (.goto k, st') := (rfl)
theorem famK_pan (ch : List APan) (st' : St) : famK keep E T μ i (some (.pan ch, st')) = T i (.pan ch, st') := (rfl)
theorem loop_fam {body : St → Option (AExit × St)} (E : ι → St) (T : ι → AExit × St → Prop) (μ : ι → Nat) (h : ∀ i, famK keep E T μ i (body (E i))) :
  ∀ (N : Nat) (i : ι) (st : St), μ i < N → st.masked keep = E i → ∃ x st', loopN keep body N st = some (x, st') ∧ T i (x, st')
 | 0, _, _, hN, _ => absurd hN (Nat.not_lt_zero _)
 | N + 1, i, st, hN, h0 => by
  have hi := h i
  show ∃ x st', (match body (st.masked keep) with | some (.normal, st') => loopN keep body N st' | r => r) = some (x, st') ∧ T i (x, st')
  rw [h0]
  unfold famK at hi
  split at hi
  ·rename_i st1 hb
   obtain ⟨j, h1, h2, h3⟩ := hi
   rw [hb]
   obtain ⟨x, st', g1, g2⟩ := loop_fam E T μ h N j st1 (by omega) h2
   exact ⟨x, st', g1, h3 _ g2⟩
  ·rename_i r hr hb
   obtain ⟨x, st'⟩ := r
   rw [hb]
   refine ⟨x, st', ?_, hi⟩
   cases x <;> first | rfl | exact absurd rfl (hr _)
  ·cases hi
end
attribute [simp] famK_normal famK_ret famK_exit famK_goto famK_pan
end Go.Ab
namespace Go.Ab
theorem loop_fam' {ι : Type} {keep : Option (List Bool)} {body : St → Option (AExit × St)} {N : Nat} {st : St} {L : Option (AExit × St)} (hL : loopN keep body N st = L) (E : ι → St) (T : ι → AExit × St → Prop) (μ : ι → Nat) (i : ι) (hN : μ i < N) (h0 : st.masked keep = E i)
  (h : ∀ i, famK keep E T μ i (body (E i))) : ∃ x st', L = some (x, st') ∧ T i (x, st') := by
 subst hL
 exact loop_fam E T μ h N i st hN h0
end Go.Ab
namespace Go.Ab
theorem getT_setT_self : ∀ {env : List AV} {t : Nat} {v : AV}, t < env.length → getT (setT env t v) t = v
 | [], t, v, h => absurd h (Nat.not_lt_zero _)
 | a :: r, 0, v, _ => rfl
 | a :: r, t + 1, v, h => by
  show getT (setT r t v) t = v
  exact getT_setT_self (by simpa using h)
theorem setT_length : ∀ (env : List AV) (t : Nat) (v : AV), (setT env t v).length = env.length
 | [], t, v => by cases t <;> rfl
 | a :: r, 0, v => rfl
 | a :: r, t + 1, v => by
  show (setT r t v).length + 1 = _
  rw [setT_length r t v]; rfl
theorem getT_setT_ne : ∀ {env : List AV} {t u : Nat} {v : AV}, t ≠ u → getT (setT env t v) u = getT env u
 | [], t, u, v, _ => by cases t <;> cases u <;> rfl
 | a :: r, 0, 0, v, h => absurd rfl h
 | a :: r, 0, u + 1, v, _ => rfl
 | a :: r, t + 1, 0, v, _ => rfl
 | a :: r, t + 1, u + 1, v, h => by
  show getT (setT r t v) u = getT r u
  exact getT_setT_ne (by omega)
end Go.Ab
namespace Go.Ab
variable {P : Program}
theorem takeCells_eq (t : TypeId) (off : Nat) (cs : List AV) : takeCells P t off cs = oB (valAt P t (cs.drop off)) fun v => bif (aggT P t || !isAggV v) then some (v, cs.take off ++ (v.cells.map AV.strip0) ++ cs.drop (off + v.cells.length)) else none := by
 unfold takeCells oB
 cases valAt P t (cs.drop off) with
 | none => rfl
 | some v =>
  simp only
  cases (aggT P t || !isAggV v) <;> rfl
end Go.Ab
namespace Go.Ab
variable {P : Program} {H : Handler} {pol : Pol} {f : FuncId} {pl : List Tmp} {N : Nat} {round : Option Nat}
section ops
variable {d : Option Tmp} {ty : TypeId} {po : String} {af : Array Edge} {g : Option (Nat × Bool)} {st : St}
def rangeK (P : Program) (t : TypeId) (v : AV) (st : St) : Option OR := match P.underlying t, v with
 | some .string, .str s => some (.val (.ptr st.S.next 0) { st with S := st.S.new (.siter ⟨s.toArray⟩ 0) })
 | _, _ => none
theorem opA_range {t : TypeId} {x : Operand} : opA P pol f pl ⟨d, .range t x, ty, po, af, g⟩ st = rangeK P t (opd st.env x) st := by
 unfold opA
 simp only [consumed, stripAt, rangeK]
 rfl
def siterOf : Option Obj → Option (ByteArray × Nat)
 | some (.siter s p) => some (s, p)
 | _ => none
theorem siterOf_some (s : ByteArray) (p : Nat) : siterOf (some (.siter s p)) = some (s, p) := (rfl)
def nextK (v : AV) (st : St) : Option OR := match v with
 | .ptr id 0 => oB (siterOf (st.S.get id)) fun q => bif decide (q.2 < q.1.size) then
     some (.val (.tup [.bool true, .int .i64 q.2, .int .i32 (Utf8.decode q.1 q.2).1]) { st with S := st.S.put id (.siter q.1 (q.2 + (Utf8.decode q.1 q.2).2)) })
    else some (.val (.tup [.bool false]) st)
 | _ => none
theorem nextK_ptr (id : Nat) : nextK (.ptr id 0) st = oB (siterOf (st.S.get id)) fun q => bif decide (q.2 < q.1.size) then
     some (.val (.tup [.bool true, .int .i64 q.2, .int .i32 (Utf8.decode q.1 q.2).1]) { st with S := st.S.put id (.siter q.1 (q.2 + (Utf8.decode q.1 q.2).2)) })
    else some (.val (.tup [.bool false]) st) := (rfl)
theorem opA_next {x : Operand} : opA P pol f pl ⟨d, .next x true, ty, po, af, g⟩ st = nextK (opd st.env x) st := by
 unfold opA
 simp only [consumed, stripAt, nextK]
 cases opd st.env x <;> try rfl
 rename_i id off
 cases off with
 | succ n => rfl
 | zero =>
  simp only
  cases st.S.get id with
  | none => rfl
  | some o =>
   cases o <;> try rfl
   rename_i s p
   simp only [siterOf, oB]
   by_cases h : p < s.size <;> simp [h]
end ops
attribute [simp] opA_range opA_next siterOf_some nextK_ptr okD_no okD_yes fixD_no fixD_yes
def scopeK (H : Handler) (f : FuncId) (round : Option Nat) (c : Code) (r : Option (AExit × St)) : Option (AExit × St) := match r with
 | some (.goto l, st') => match findLabel c l with
   | some rest => match H.code f round rest st' with
    | some (.goto l', st2) => if (findLabel c l').isSome then none else some (.goto l', st2)
    | r => r
   | none => some (.goto l, st')
 | r => r
@[congr] theorem scopeK_congr {c : Code} {r r' : Option (AExit × St)} (h : r = r') : scopeK H f round c r = scopeK H f round c r' := by rw [h]
theorem scopeK_normal (c : Code) (st : St) : scopeK H f round c (some (.normal, st)) = some (.normal, st) := (rfl)
theorem scopeK_ret (c : Code) (st : St) : scopeK H f round c (some (.ret, st)) = some (.ret, st) := (rfl)
theorem scopeK_exit (c : Code) (i : Nat) (st : St) : scopeK H f round c (some (.exit i, st)) = some (.exit i, st) := (rfl)
theorem scopeK_pan (c : Code) (ch : List APan) (st : St) : scopeK H f round c (some (.pan ch, st)) = some (.pan ch, st) := (rfl)
theorem ev_scope (c : Code) (st : St) : evCode P H N pol f round (.scope c) st = scopeK H f round c (evCode P H N pol f round c st) := by
 conv => lhs; unfold evCode
 unfold scopeK
 rfl
attribute [simp] scopeK_normal scopeK_ret scopeK_exit scopeK_pan ev_scope
def uwK (H : Handler) (ds : List ADef) (_m : AMode) (r : Option (AEnd × AMode × Sto)) : Option (AMode × Sto) := match r with
 | some (.ret _, m', S') => unwindA H ds (settleA m') S'
 | some (.pan ch, m', S') => unwindA H ds (raisedA m' ch) S'
 | none => none
@[congr] theorem uwK_congr {ds : List ADef} {m : AMode} {r r' : Option (AEnd × AMode × Sto)} (h : r = r') : uwK H ds m r = uwK H ds m r' := by rw [h]
theorem uwK_ret (ds : List ADef) (m m' : AMode) (v : AV) (S : Sto) : uwK H ds m (some (.ret v, m', S)) = unwindA H ds (settleA m') S := (rfl)
theorem uwK_pan (ds : List ADef) (m m' : AMode) (ch : List APan) (S : Sto) : uwK H ds m (some (.pan ch, m', S)) = unwindA H ds (raisedA m' ch) S := (rfl)
theorem unwind_fn (g : FuncId) (cap args : List AV) (ds : List ADef) (m : AMode) (S : Sto) : unwindA H (⟨.fn (.func g) cap, args⟩ :: ds) m S = uwK H ds m (H.callD g (args ++ cap) m S) := by
 unfold uwK
 conv => lhs; unfold unwindA
 rfl
def deferredK {α : Type} (o : Option Obj) (x : Option α) : Option α := match o with | some .deferred => x | _ => none
@[congr] theorem deferredK_congr {α : Type} {o o' : Option Obj} {x : Option α} (h : o = o') : deferredK o x = deferredK o' x := by rw [h]
theorem deferredK_some {α : Type} (x : Option α) : deferredK (some .deferred) x = x := (rfl)
theorem unwind_coll (id : Nat) (args : List AV) (ds : List ADef) (m : AMode) (S : Sto) : unwindA H (⟨.coll id, args⟩ :: ds) m S = deferredK (S.get id) (unwindA H ds m (S.drop id)) := by
 unfold deferredK
 conv => lhs; unfold unwindA
 rfl
theorem callD_eq {n : Nat} (g : FuncId) (args : List AV) (m : AMode) (S : Sto) : (handler P pol (n + 1)).callD g args m S = runFn P (handler P pol n) n pol g m args S := (rfl)
theorem settle_ret : settleA .returning = .returning := (rfl)
theorem settle_rec (v : AV) (l : List APan) : settleA (.panicking (⟨v, true⟩ :: l)) = .returning := (rfl)
theorem settle_pan (v : AV) (l : List APan) : settleA (.panicking (⟨v, false⟩ :: l)) = .panicking (⟨v, false⟩ :: l) := (rfl)
attribute [simp] uwK_ret uwK_pan unwind_fn unwind_coll deferredK_some settle_ret settle_rec settle_pan
def recK (par : AMode) (st : St) : Option (AV × St) := match par with
 | .unk => none
 | .panicking (⟨v, false⟩ :: older) => some (v, { st with par := .panicking (⟨v, true⟩ :: older) })
 | _ => some (.niliface, st)
theorem recover_eq (st : St) : recoverA st = recK st.par st := (rfl)
theorem recK_pan (v : AV) (older : List APan) (st : St) : recK (.panicking (⟨v, false⟩ :: older)) st = some (v, { st with par := .panicking (⟨v, true⟩ :: older) }) := (rfl)
theorem recK_ret (st : St) : recK .returning st = some (.niliface, st) := (rfl)
theorem recK_none (st : St) : recK .none st = some (.niliface, st) := (rfl)
attribute [simp] recover_eq recK_pan recK_ret recK_none
def defK (par : AMode) (v : AV) (args : List AV) (st : St) : Option St := match par, v with
 | .unk, _ => none
 | _, .fn (.func g) first cap => some { st with defs := ⟨.fn (.func g) cap, first ++ args⟩ :: st.defs }
 | _, _ => none
theorem deferA_none (g : FuncId) (first cap args : List AV) (env : List AV) (defs : List ADef) (S : Sto) : deferA { env := env, defs := defs, par := .none, S := S } (.fn (.func g) first cap) args = some { env := env, defs := ⟨.fn (.func g) cap, first ++ args⟩ :: defs, par := .none, S := S } := (rfl)
attribute [simp] deferA_none
def loopOf (pol : Pol) (f : FuncId) (ps : Array Tmp) (as body : Code) (st : St) (dn : Nat) : ALoop :=
 { state := .ready, pending := none, fn := f, env := (st.masked (pol.keep f)).env.map AV.strip, params := ps.toList, assign := as, body := body, defers := dn }
def rgEnd (id : Nat) (st : St) (defs : List ADef) (r : Option (AEnd × Sto)) : Option (AExit × St) := match r with
 | none => none
 | some (.pan ch, S3) => some (.pan ch, { st with S := S3, defs })
 | some (.ret _, S3) => match S3.get id with
  | some (.loop r) =>
   if r.state = .busy then none else
   let st' := { st with S := S3.drop id, defs }
   match r.pending with
   | none => some (.normal, st')
   | some .ret => some (.ret, st')
   | some (.exit j) => some (.exit j, st')
   | some (.goto j) => some (.goto j, st')
   | some _ => none
  | _ => none
@[congr] theorem rgEnd_congr {id : Nat} {st : St} {defs : List ADef} {r r' : Option (AEnd × Sto)} (h : r = r') : rgEnd id st defs r = rgEnd id st defs r' := by rw [h]
def rgK (H : Handler) (v : AV) (id : Nat) (S2 : Sto) (st : St) (defs : List ADef) : Option (AExit × St) := match v with
 | .fn (.func g) first cap => rgEnd id st defs (H.call (.func g) (first ++ [.yld id] ++ cap) S2)
 | _ => none
@[congr] theorem rgK_congr {v v' : AV} {id : Nat} {S2 : Sto} {st : St} {defs : List ADef} (h : v = v') : rgK H v id S2 st defs = rgK H v' id S2 st defs := by rw [h]
theorem rgK_fn (g : FuncId) (first cap : List AV) (id : Nat) (S2 : Sto) (st : St) (defs : List ADef) : rgK H (.fn (.func g) first cap) id S2 st defs = rgEnd id st defs (H.call (.func g) (first ++ [.yld id] ++ cap) S2) := (rfl)
theorem ev_rangeFunc (g : Operand) (ps : Array Tmp) (as body : Code) (st : St) : evCode P H N pol f none (.rangeFunc g ps as body) st =
  rgK H (opd st.env g) (st.S.next + 1) ((st.S.new .deferred).new (.loop (loopOf pol f ps as body st st.S.next))) st (⟨.coll st.S.next, []⟩ :: st.defs) := by
 conv => lhs; unfold evCode
 unfold evRange rgK
 cases opd st.env g <;> try rfl
theorem rgEnd_pan (id : Nat) (st : St) (defs : List ADef) (ch : List APan) (S3 : Sto) : rgEnd id st defs (some (.pan ch, S3)) = some (.pan ch, { st with S := S3, defs }) := (rfl)
theorem rgEnd_ret {id : Nat} {st : St} {defs : List ADef} {v : AV} {S3 : Sto} {r : ALoop} (h : S3.get id = some (.loop r)) (hs : r.state = .ready) (hp : r.pending = none) :
  rgEnd id st defs (some (.ret v, S3)) = some (.normal, { st with S := S3.drop id, defs }) := by
 simp only [rgEnd, h, hs, hp]
 rfl
attribute [simp] rgK_fn ev_rangeFunc rgEnd_pan
theorem yield_run {id : Nat} {args : List AV} {S : Sto} {st st2 : St} {r : ALoop} (hS : S.get id = some (.loop r)) (hr : r.state = .ready) (hp : r.pending = none) (hl : args.length = r.params.length) (hf : (P.funcs[r.fn]?).isSome = true)
  (h1 : evCode P H N pol r.fn (some id) r.assign { env := setAll r.env r.params (args.map AV.strip), defs := [], par := .unk, S := S } = some (.normal, st)) (hd : st.defs = []) (hS1 : st.S = S)
  (h2 : evCode P H N pol r.fn (some id) r.body { st with S := S.put id (.loop { r with state := .busy }) } = some (.normal, st2)) (hd2 : st2.defs = []) (hS2 : st2.S.get id = some (.loop { r with state := .busy })) :
  runYield P H N pol id args S = some (.ret (.bool true), st2.S.put id (.loop r)) := by
 unfold runYield
 rw [hS]
 simp only
 rw [if_pos ⟨hl, hf⟩, h1]
 simp only
 rw [hS1, hS]
 simp only
 rw [if_pos ⟨by rw [hd]; rfl, hr⟩, h2]
 simp only
 rw [hS2]
 simp only
 rw [hd2]
 obtain ⟨a, b, c, d, e, g, i, j⟩ := r
 simp only at hr hp
 subst hr hp
 rfl
def setAllT : List AV → List Tmp → List AV → List AV
 | env, t :: ts, a :: as => setAllT (setT env t a) ts as
 | env, _, _ => env
theorem setAll_eq : ∀ (env : List AV) (ts : List Tmp) (as : List AV), setAll env ts as = setAllT env ts as
 | env, [], as => by cases as <;> rfl
 | env, t :: ts, [] => rfl
 | env, t :: ts, a :: as => by
  show setAll (env.set t a) ts as = setAllT (setT env t a) ts as
  rw [setT_eq]; exact setAll_eq _ ts as
theorem setAllT_cons (env : List AV) (t : Tmp) (ts : List Tmp) (a : AV) (as : List AV) : setAllT env (t :: ts) (a :: as) = setAllT (setT env t a) ts as := (rfl)
theorem setAllT_nil (env : List AV) (as : List AV) : setAllT env [] as = env := by cases as <;> rfl
attribute [simp] setAll_eq setAllT_cons setAllT_nil
def yFin (id : Nat) (res : Option (AExit × St)) : Option (AEnd × Sto) := match res with
 | some (x, st2) => match st2.S.get id with
  | some (.loop r2) =>
   if st2.defs.isEmpty = false then none else
   let fin (j : Option Code) : Option (AEnd × Sto) :=
    some (.ret (.bool j.isNone), st2.S.put id (.loop { r2 with state := if j.isNone then .ready else .done, pending := j }))
   match x with
   | .normal => fin none
   | .ret => fin (some .ret)
   | .exit j => fin (some (.exit j))
   | .goto j => fin (some (.goto j))
   | .pan ch => some (.pan ch, st2.S)
  | _ => none
 | none => none
@[congr] theorem yFin_congr {id : Nat} {r r' : Option (AExit × St)} (h : r = r') : yFin id r = yFin id r' := by rw [h]
def yBody (P : Program) (H : Handler) (N : Nat) (pol : Pol) (r : ALoop) (id : Nat) (res : Option (AExit × St)) : Option (AEnd × Sto) := match res with
 | some (.normal, st) => match st.S.get id with
  | some (.loop r1) => if st.defs.isEmpty ∧ r1.state = .ready then yFin id (evCode P H N pol r.fn (some id) r.body { st with S := st.S.put id (.loop { r1 with state := .busy }) }) else none
  | _ => none
 | _ => none
@[congr] theorem yBody_congr {r : ALoop} {id : Nat} {x x' : Option (AExit × St)} (h : x = x') : yBody P H N pol r id x = yBody P H N pol r id x' := by rw [h]
theorem yield_eq {id : Nat} {args : List AV} {S : Sto} {r : ALoop} (hS : S.get id = some (.loop r)) (hl : args.length = r.params.length) (hf : (P.funcs[r.fn]?).isSome = true) :
  runYield P H N pol id args S = yBody P H N pol r id (evCode P H N pol r.fn (some id) r.assign { env := setAll r.env r.params (args.map AV.strip), defs := [], par := .unk, S := S }) := by
 unfold runYield
 rw [hS]
 simp only
 rw [if_pos ⟨hl, hf⟩]
 unfold yBody yFin
 rfl
theorem yBody_normal {r r1 : ALoop} {id : Nat} {env : List AV} {par : AMode} {S : Sto} (h : S.get id = some (.loop r1)) (hs : r1.state = .ready) :
  yBody P H N pol r id (some (.normal, { env := env, defs := [], par := par, S := S })) = yFin id (evCode P H N pol r.fn (some id) r.body { env := env, defs := [], par := par, S := S.put id (.loop { r1 with state := .busy }) }) := by
 simp only [yBody, h]
 rw [if_pos ⟨rfl, hs⟩]
theorem yFin_normal {r : ALoop} {id : Nat} {env : List AV} {par : AMode} {S : Sto} (h : S.get id = some (.loop r)) :
  yFin id (some (.normal, { env := env, defs := [], par := par, S := S })) = some (.ret (.bool true), S.put id (.loop { r with state := .ready, pending := none })) := by
 simp only [yFin, h]
 rfl
theorem yFin_ret {r : ALoop} {id : Nat} {env : List AV} {par : AMode} {S : Sto} (h : S.get id = some (.loop r)) :
  yFin id (some (.ret, { env := env, defs := [], par := par, S := S })) = some (.ret (.bool false), S.put id (.loop { r with state := .done, pending := some .ret })) := by
 simp only [yFin, h]
 rfl
theorem yFin_exit {r : ALoop} {id j : Nat} {env : List AV} {par : AMode} {S : Sto} (h : S.get id = some (.loop r)) :
  yFin id (some (.exit j, { env := env, defs := [], par := par, S := S })) = some (.ret (.bool false), S.put id (.loop { r with state := .done, pending := some (.exit j) })) := by
 simp only [yFin, h]
 rfl
theorem rgEnd_done {id : Nat} {st : St} {defs : List ADef} {v : AV} {S3 : Sto} {r : ALoop} (h : S3.get id = some (.loop r)) (hs : r.state = .done) (hp : r.pending = some .ret) :
  rgEnd id st defs (some (.ret v, S3)) = some (.ret, { st with S := S3.drop id, defs }) := by
 simp only [rgEnd, h, hs, hp]
 rfl
theorem rgEnd_exit {id j : Nat} {st : St} {defs : List ADef} {v : AV} {S3 : Sto} {r : ALoop} (h : S3.get id = some (.loop r)) (hs : r.state = .done) (hp : r.pending = some (.exit j)) :
  rgEnd id st defs (some (.ret v, S3)) = some (.exit j, { st with S := S3.drop id, defs }) := by
 simp only [rgEnd, h, hs, hp]
 rfl
attribute [simp ↓] oB_some oB_none bindN_normal bindN_ret bindN_exit bindN_goto bindN_pan blkK_normal blkK_ret blkK_pan blkK_exit bK_true bK_false gK_tt gK_ff gK_tf gK_ft gK_un gK_un' rK_val rK_pan rK_call cK_ret cK_pan
attribute [simp ↓] ev_skip ev_label ev_seq ev_cond ev_block ev_exit ev_goto ev_ret ev_regionL ev_loop ev_draw wantedL_none wantedL_some gT_some evL_nil evL_cons
attribute [simp ↓] fK_none fixD_nil sK_true cKD_ret cKD_pan rKD_val rKD_pan rKD_call evLD_nil evLD_cons dK_normal dK_pan bxK_true
attribute [simp ↓] nbK_unk nbK_bool nbK_int nbK_str nbK_nilptr nbK_ptr nbK_fptr nbK_lptr nbK_nilsl nbK_sl nbK_rsl nbK_aptr nbK_nilmap nbK_map nbK_nilfn nbK_fn nbK_yld nbK_niliface nbK_iface nbK_agg nbK_tup nbK_undef nbK_sv
attribute [simp ↓] famK_normal famK_ret famK_exit famK_goto famK_pan stepOK_normal contK_ret contK_exit contK_goto contK_pan finK_normal finK_ret finK_pan endK_ret endK_pan
attribute [simp ↓] scopeK_normal scopeK_ret scopeK_exit scopeK_pan uwK_ret uwK_pan deferredK_some
end Go.Ab
