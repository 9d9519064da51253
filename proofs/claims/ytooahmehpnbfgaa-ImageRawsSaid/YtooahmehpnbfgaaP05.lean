import Derived.Test.YtooahmehpnbfgaaP04
import Derived.Test.YtooahmehpnbfgaaRows
import Derived.WalkKit
import Derived.ProofKit
import Derived.OpenShut
import Derived.ShutString
import Derived.ChangeOld
import Derived.Below
import Derived.SizedLaws
/- Which files may be: how many, and the parts. -/
namespace Go.Ab.Seat
open Go.Proofs
set_option maxRecDepth 100000
set_option maxHeartbeats 2000000
variable {H : Handler} {N : Nat} {S : Sto}
theorem goodBytes (b : UInt8) : sameL (byteRow b) (byteRow b) = true := by simp [byteRow]
theorem goodPart (p : PartV) : sameL (partRow p) (partRow p) = true := by simp [partRow, same_sv false 1 goodBytes]
theorem goodSym (p : SymV) : sameL (symRow p) (symRow p) = true := by simp [symRow]
theorem goodFile (f : FileV) : sameL (fileC f) (fileC f) = true := by simp [fileC, same_sv false 2 goodPart, same_sv false 2 goodSym]
@[simp] theorem partRow_len (p : PartV) : (partRow p).length = 2 := (rfl)
@[simp] theorem partRow_take (p : PartV) : (partRow p).take 2 = partRow p := (rfl)
@[simp] theorem partRow_strip (p : PartV) : (partRow p).map AV.strip0 = partRow p := by simp [partRow]
@[simp] theorem symRow_len (p : SymV) : (symRow p).length = 2 := (rfl)
@[simp] theorem symRow_take (p : SymV) : (symRow p).take 2 = symRow p := (rfl)
@[simp] theorem symRow_strip (p : SymV) : (symRow p).map AV.strip0 = symRow p := by simp [symRow]
@[simp] theorem fileC_len (p : FileV) : (fileC p).length = 2 := (rfl)
@[simp] theorem fileC_take (p : FileV) : (fileC p).take 2 = fileC p := (rfl)
@[simp] theorem fileC_strip (p : FileV) : (fileC p).map AV.strip0 = fileC p := by simp [fileC]
theorem end_call {n : Nat} (a : Int) (o : Option (List UInt8)) (own : Bool) : (handler Try.prog ppol (n + 1)).call (.func 41) [.agg [.int .i64 a, sv own 1 byteRow o]] S = some (.ret (.int .i64 (IntKind.i64.wrap (a + (ol o).length))), S) := by
  rw [call_func (by rfl), end_run]; rfl
def sizesOk (f : FileV) : Bool := decide ((ol f.parts).length ≤ 64) && decide ((ol f.names).length ≤ 64)
theorem right1_run {a : Nat} (f : FileV) (hS : S.get a = some (.cells (fileC f))) : runFn Try.prog H N ppol 62 .none [.ptr a 0] S = some (.ret (.bool (sizesOk f)), .none, S) := by
  rw [runFn_eq Try.func62 (by rfl)]
  unfold sizesOk
  by_cases h1 : (ol f.parts).length ≤ 64
  · have g1 : ((ol f.parts).length : Int) ≤ 64 := by omega
    by_cases h2 : (ol f.names).length ≤ 64
    · have g2 : ((ol f.names).length : Int) ≤ 64 := by omega
      simp [Try.f62, hS, fileC, g1, g2, h1, h2]
    · have g2 : ¬ ((ol f.names).length : Int) ≤ 64 := by omega
      simp [Try.f62, hS, fileC, g1, g2, h1, h2]
  · have g1 : ¬ ((ol f.parts).length : Int) ≤ 64 := by omega
    simp [Try.f62, hS, fileC, g1, h1]
def endI (p : PartV) : Int := IntKind.i64.wrap (p.at' + (ol p.bytes).length)
def badP (x : Int) (p : PartV) : Bool := decide ((ol p.bytes).length = 0) || decide (2048 < (ol p.bytes).length) || decide (p.at' < x) || decide (2048 ≤ p.at') || decide (2048 < endI p)
theorem bad_run {n b : Nat} (x : Int) (p : PartV) (hS : S.get b = some (.cells [.int .i64 x])) :
    runFn Try.prog (handler Try.prog ppol (n + 1)) N ppol 65 .none [.agg (partRow p), .ptr b 0] S = some (.ret (.bool (badP x p)), .none, S.put b (.cells [.int .i64 (endI p)])) := by
  rw [runFn_eq Try.func65 (by rfl)]
  have he : IntKind.i64.wrap (p.at' + (ol p.bytes).length) = endI p := rfl
  unfold badP
  by_cases h1 : (ol p.bytes).length = 0
  · have g1 : (((ol p.bytes).length : Int) == 0) = true := by rw [beq_iff_eq]; omega
    simp [Try.f65, partRow, hS, h1, end_call, writeCells]
    rw [← he, h1]; simp
  · have g1 : (((ol p.bytes).length : Int) == 0) = false := by rw [beq_eq_false_iff_ne]; omega
    by_cases h2 : 2048 < (ol p.bytes).length
    · have g2 : (2048 : Int) < (ol p.bytes).length := by omega
      simp [Try.f65, partRow, hS, h1, g1, g2, h2, end_call, writeCells, he]
    · have g2 : ¬ (2048 : Int) < (ol p.bytes).length := by omega
      by_cases h3 : p.at' < x
      · simp [Try.f65, partRow, hS, h1, g1, g2, h2, h3, end_call, writeCells, he]
      · by_cases h4 : 2048 ≤ p.at'
        · simp [Try.f65, partRow, hS, h1, g1, g2, h2, h3, h4, end_call, writeCells, he]
        · by_cases h5 : 2048 < endI p
          · simp [Try.f65, partRow, hS, h1, g1, g2, h2, h3, h4, h5, end_call, writeCells, he]
          · simp [Try.f65, partRow, hS, h1, g1, g2, h2, h3, h4, h5, end_call, writeCells, he]
theorem bad_call {n b : Nat} (x : Int) (p : PartV) (hS : S.get b = some (.cells [.int .i64 x])) :
    (handler Try.prog ppol (n + 2)).call (.func 65) [.agg (partRow p), .ptr b 0] S = some (.ret (.bool (badP x p)), S.put b (.cells [.int .i64 (endI p)])) := by
  rw [call_func (by rfl), bad_run x p hS]; rfl
/-- The end of what lies ahead of the k-th. -/
def lastAt (x : Int) (l : List PartV) (k : Nat) : Int := (l.take k).foldl (fun _ p => endI p) x
theorem lastAt_succ {x : Int} {l : List PartV} {k : Nat} {p : PartV} (h : l[k]? = some p) : lastAt x l (k + 1) = endI p := by
  have hlt := (List.getElem?_eq_some_iff.1 h).1
  have : l[k] = p := (List.getElem?_eq_some_iff.1 h).2
  unfold lastAt
  rw [List.take_succ_eq_append_getElem hlt, List.foldl_append, this]; rfl
def pBad : Int → List PartV → Bool
  | _, [] => false
  | x, p :: l => badP x p || pBad (endI p) l
theorem pBad_none : ∀ {l : List PartV} {x : Int}, (∀ k, k < l.length → ¬ ∃ p, l[k]? = some p ∧ badP (lastAt x l k) p = true) → pBad x l = false
  | [], _, _ => rfl
  | p :: l, x, h => by
    have h0 : badP x p = false := by
      have := h 0 (by simp)
      cases hb : badP x p with
      | false => rfl
      | true => exact absurd ⟨p, rfl, hb⟩ this
    have hr : pBad (endI p) l = false := pBad_none fun k hk ⟨q, hq, hb⟩ => h (k + 1) (by simpa using hk) ⟨q, by simpa using hq, hb⟩
    simp [pBad, h0, hr]
theorem pBad_some : ∀ {l : List PartV} {x : Int} {m : Nat} {p : PartV}, l[m]? = some p → badP (lastAt x l m) p = true → pBad x l = true
  | [], _, _, _, h, _ => by simp at h
  | q :: l, x, 0, p, h, hb => by
    simp only [List.getElem?_cons_zero, Option.some.injEq] at h
    subst h
    have : badP x q = true := hb
    simp [pBad, this]
  | q :: l, x, m + 1, p, h, hb => by
    have := pBad_some (l := l) (x := endI q) (m := m) (p := p) (by simpa using h) hb
    simp [pBad, this]
theorem partsBad_run {n b : Nat} (o : Option (List PartV)) (x : Int) (hl : (ol o).length < 2 ^ 30) (hN : (ol o).length < N) (hS : S.get b = some (.cells [.int .i64 x])) :
    ∃ r y : Int, runFn Try.prog (handler Try.prog ppol (n + 2)) N ppol 82 .none [sv false 2 partRow o, .fn (.func 65) [] [.ptr b 0]] S = some (.ret (.int .i64 r), .none, S.put b (.cells [.int .i64 y])) ∧ (0 ≤ r ↔ pBad x (ol o) = true) := by
  rcases first_or_all (fun k => ∃ p, (ol o)[k]? = some p ∧ badP (lastAt x (ol o) k) p = true) (ol o).length with ⟨m, h1, ⟨p, h2, h4⟩, h3⟩ | h
  · refine ⟨m, endI p, ?_, by simp [pBad_some h2 h4]⟩
    rw [runFn_eq Try.func82 (by rfl)]
    simp [Try.f82]
    rw [loop_go (fun k => { env := envOf 19 [(0, sv false 2 partRow o), (1, .fn (.func 65) [] [.ptr b 0]), (7, .int .i64 (ol o).length), (8, .int .i64 k)], defs := [], par := .none, S := S.put b (.cells [.int .i64 (lastAt x (ol o) k)]) }) m (by omega)]
    · simp [h1, index_sv Try.underlying22 tycells45 _ h2, bad_call (lastAt x (ol o) m) p (get_put_self hS), h4]
    · simp [lastAt, put_self hS]
    · intro k hk
      have hkl : k < (ol o).length := by omega
      obtain ⟨q, hq⟩ : ∃ q, (ol o)[k]? = some q := ⟨_, List.getElem?_eq_getElem hkl⟩
      have hb : badP (lastAt x (ol o) k) q = false := by
        cases hb : badP (lastAt x (ol o) k) q with
        | false => rfl
        | true => exact absurd ⟨q, hq, hb⟩ (h3 k hk)
      have g7 : IntKind.i64.wrap ((k : Int) + 1) = (k : Int) + 1 := wrap_succ hkl (by omega)
      simp [hkl, index_sv Try.underlying22 tycells45 _ hq, bad_call (lastAt x (ol o) k) q (get_put_self hS), hb, g7, lastAt_succ hq]
  · refine ⟨-1, lastAt x (ol o) (ol o).length, ?_, by simp [pBad_none h]⟩
    rw [runFn_eq Try.func82 (by rfl)]
    simp [Try.f82]
    rw [loop_go (fun k => { env := envOf 19 [(0, sv false 2 partRow o), (1, .fn (.func 65) [] [.ptr b 0]), (7, .int .i64 (ol o).length), (8, .int .i64 k)], defs := [], par := .none, S := S.put b (.cells [.int .i64 (lastAt x (ol o) k)]) }) (ol o).length (by omega)]
    · simp
    · simp [lastAt, put_self hS]
    · intro k hkl
      obtain ⟨q, hq⟩ : ∃ q, (ol o)[k]? = some q := ⟨_, List.getElem?_eq_getElem hkl⟩
      have hb : badP (lastAt x (ol o) k) q = false := by
        cases hb : badP (lastAt x (ol o) k) q with
        | false => rfl
        | true => exact absurd ⟨q, hq, hb⟩ (h k hkl)
      have g7 : IntKind.i64.wrap ((k : Int) + 1) = (k : Int) + 1 := wrap_succ hkl (by omega)
      simp [hkl, index_sv Try.underlying22 tycells45 _ hq, bad_call (lastAt x (ol o) k) q (get_put_self hS), hb, g7, lastAt_succ hq]
theorem right2_run {n a b : Nat} (f : FileV) (x : Int) (hl : (ol f.parts).length < 2 ^ 30) (hn : (ol f.parts).length < n) (ha : S.get a = some (.cells (fileC f))) (hb : S.get b = some (.cells [.int .i64 x])) :
    ∃ y : Int, runFn Try.prog (handler Try.prog ppol (n + 4)) N ppol 63 .none [.ptr a 0, .ptr b 0] S = some (.ret (.bool !pBad x (ol f.parts)), .none, S.put b (.cells [.int .i64 y])) := by
  obtain ⟨r, y, h1, h2⟩ := partsBad_run (n := n) (N := n + 2) (S := S) f.parts x hl (by omega) hb
  have h3 : (handler Try.prog ppol (n + 3)).call (.func 82) [sv false 2 partRow f.parts, .fn (.func 65) [] [.ptr b 0]] S = some (.ret (.int .i64 r), S.put b (.cells [.int .i64 y])) := by
    rw [call_func (by rfl), h1]; rfl
  have h4 : (handler Try.prog ppol (n + 4)).call (.func 64) [sv false 2 partRow f.parts, .fn (.func 65) [] [.ptr b 0]] S = some (.ret (.bool (pBad x (ol f.parts))), S.put b (.cells [.int .i64 y])) := by
    rw [call_func (by rfl), runFn_eq Try.func64 (by rfl)]
    simp [Try.f64, h3, h2]
  refine ⟨y, ?_⟩
  rw [runFn_eq Try.func63 (by rfl)]
  simp [Try.f63, ha, fileC, h4]
end Go.Ab.Seat
/- Which files may be: the names. -/
namespace Go.Ab.Seat
open Go.Proofs
set_option maxRecDepth 100000
set_option maxHeartbeats 4000000
variable {H : Handler} {N : Nat} {S : Sto}
def nmAt (l : List SymV) (i : Nat) : Bool := match l[i]? with
  | none => true
  | some s => nameOk s.name && decide (0 ≤ s.at') && decide (s.at' ≤ 2048) && (decide (i = 0) || match l[i - 1]? with | some q => Op.bytesLess q.name s.name | none => true)
def namesOk (l : List SymV) : Bool := (List.range l.length).all (nmAt l)
structure NmI (S : Sto) (l : List SymV) where
  k : Nat
  S' : Sto
  hk : k ≤ l.length
  hb : ∀ j, j < k → nmAt l j = true
  hg : Grew [] S S'
def NmE (S : Sto) (a : Nat) (o : Option (List SymV)) (i : NmI S (ol o)) : St := { env := envOf 43 [(0, .ptr a 0), (5, sv false 2 symRow o), (6, .int .i64 (ol o).length), (7, .int .i64 i.k)], defs := [], par := .none, S := i.S' }
def NmT (S : Sto) (l : List SymV) (r : AExit × St) : Prop :=
  r.2.defs = [] ∧ r.2.par = .none ∧ Grew [] S r.2.S ∧ ((r.1 = .exit 0 ∧ r.2.env.length = 43 ∧ namesOk l = true) ∨ (r.1 = .ret ∧ getT r.2.env 1 = .bool false ∧ namesOk l = false))
theorem nm_all {l : List SymV} (h : ∀ j, j < l.length → nmAt l j = true) : namesOk l = true := by
  unfold namesOk
  rw [List.all_eq_true]
  exact fun j hj => h j (List.mem_range.1 hj)
theorem nm_not {l : List SymV} {j : Nat} (hj : j < l.length) (h : nmAt l j = false) : namesOk l = false := by
  unfold namesOk
  rw [List.all_eq_false]
  exact ⟨j, List.mem_range.2 hj, by simp [h]⟩
theorem right3_run {n a : Nat} (f : FileV) (hl : (ol f.names).length < 2 ^ 30) (hN : (ol f.names).length < N) (hn : 400 < n) (hs : ∀ s ∈ ol f.names, s.name.length ≤ 300) (ha : S.get a = some (.cells (fileC f))) (hlt : a < S.next) :
    ∃ S', runFn Try.prog (handler Try.prog ppol (n + 4)) N ppol 66 .none [.ptr a 0] S = some (.ret (.bool (namesOk (ol f.names))), .none, S') ∧ Grew [] S S' := by
  rw [runFn_eq Try.func66 (by rfl)]
  simp [Try.f66, ha, fileC]
  generalize hL : loopN _ _ _ _ = L
  obtain ⟨x, st', rfl, hT⟩ := loop_fam' hL (NmE S a f.names) (fun _ => NmT S (ol f.names)) (fun i => (ol f.names).length - i.k) ⟨0, S, by omega, fun j hj => by omega, Grew.refl _ _⟩ (by show _ - 0 < N; omega) (by simp [NmE]) (fun i => by
    obtain ⟨k, S1, hk, hb, hg⟩ := i
    clear hL
    have ha1 : S1.get a = some (.cells (fileC f)) := (hg.get a hlt (by simp)).trans ha
    by_cases hkl : k < (ol f.names).length
    · obtain ⟨s, hks⟩ : ∃ s, (ol f.names)[k]? = some s := ⟨_, List.getElem?_eq_getElem hkl⟩
      obtain ⟨S2, hc, hg2⟩ := name_call (n := n) (S := S1) s.name (by have := hs s (List.mem_of_getElem? hks); omega) (by have := hs s (List.mem_of_getElem? hks); omega)
      have ha2 : S2.get a = some (.cells (fileC f)) := (hg2.get a (Nat.lt_of_lt_of_le hlt hg.next) (by simp)).trans ha1
      have g7 : IntKind.i64.wrap ((k : Int) + 1) = (k : Int) + 1 := wrap_succ hkl (by omega)
      have hgg : Grew [] S S2 := hg.trans hg2
      have hnm : nmAt (ol f.names) k = (nameOk s.name && decide (0 ≤ s.at') && decide (s.at' ≤ 2048) && (decide (k = 0) || match (ol f.names)[k - 1]? with | some q => Op.bytesLess q.name s.name | none => true)) := by
        unfold nmAt; rw [hks]
      have hF : nmAt (ol f.names) k = false → NmT S (ol f.names) = NmT S (ol f.names) := fun _ => rfl
      cases hok : nameOk s.name
      · have hfl := nm_not hkl (by rw [hnm, hok]; rfl)
        rw [hok] at hc
        simp [NmE, hkl, index_sv Try.underlying23 tycells64 _ hks, symRow, writeCells]
        rw [evDraw_go]
        · simp [hc, NmT, hgg, hfl]
        · kernel_rfl
      · rw [hok] at hc hnm
        by_cases c1 : s.at' < 0
        · have d1 : decide (0 ≤ s.at') = false := by rw [decide_eq_false_iff_not]; omega
          have hfl := nm_not hkl (by rw [hnm, d1]; rfl)
          simp [NmE, hkl, index_sv Try.underlying23 tycells64 _ hks, symRow, writeCells]
          rw [evDraw_go]
          · simp [hc, NmT, hgg, hfl, c1]
          · kernel_rfl
        · have d1 : decide (0 ≤ s.at') = true := by rw [decide_eq_true_iff]; omega
          by_cases c2 : 2048 < s.at'
          · have d2 : decide (s.at' ≤ 2048) = false := by rw [decide_eq_false_iff_not]; omega
            have hfl := nm_not hkl (by rw [hnm, d1, d2]; rfl)
            simp [NmE, hkl, index_sv Try.underlying23 tycells64 _ hks, symRow, writeCells]
            rw [evDraw_go]
            · simp [hc, NmT, hgg, hfl, c1, c2]
            · kernel_rfl
          · have d2 : decide (s.at' ≤ 2048) = true := by rw [decide_eq_true_iff]; omega
            rw [d1, d2] at hnm
            by_cases c3 : k = 0
            · subst c3
              have hi0 := index_sv (own := false) (g := symRow) Try.underlying23 tycells64 .i64 hks
              rw [show ((0 : Nat) : Int) = 0 from rfl] at hi0 g7
              simp [NmE, hkl, hi0, symRow, writeCells]
              rw [evDraw_go]
              · simp [hc, c1, c2]
                refine ⟨⟨1, S2, hkl, fun j hj => ?_, hgg⟩, ?_, ?_⟩
                · have : j = 0 := by omega
                  rw [this, hnm]; rfl
                · show _ - 1 < _ - 0; omega
                · simp [NmE]; exact Go.IntWalk.i64_in _ (by omega)
              · kernel_rfl
            · have c3' : 0 < k := by omega
              obtain ⟨q, hkq⟩ : ∃ q, (ol f.names)[k - 1]? = some q := ⟨_, List.getElem?_eq_getElem (by omega)⟩
              have g8 : IntKind.i64.wrap ((k : Int) - 1) = ((k - 1 : Nat) : Int) := by
                rw [show (k : Int) - 1 = ((k - 1 : Nat) : Int) by omega]; exact Go.IntWalk.i64_in _ (by omega)
              rw [hkq] at hnm
              cases hless : Op.bytesLess q.name s.name
              · have hfl := nm_not hkl (by rw [hnm]; simp [c3, hless])
                simp [NmE, hkl, index_sv Try.underlying23 tycells64 _ hks, symRow, writeCells]
                rw [evDraw_go]
                · simp [hc, c1, c2, c3', g8, ha2, fileC, index_sv Try.underlying23 tycells64 _ hkq, symRow, hless, NmT, hgg, hfl]
                · kernel_rfl
              · simp [NmE, hkl, index_sv Try.underlying23 tycells64 _ hks, symRow, writeCells]
                rw [evDraw_go]
                · simp [hc, c1, c2, c3', g8, ha2, fileC, index_sv Try.underlying23 tycells64 _ hkq, symRow, hless]
                  refine ⟨⟨k + 1, S2, hkl, fun j hj => ?_, hgg⟩, ?_, ?_⟩
                  · by_cases e : j = k
                    · rw [e, hnm]; simp [hless]
                    · exact hb j (by omega)
                  · show _ - (k + 1) < _ - k; omega
                  · simp [NmE, g7]
                · kernel_rfl
    · have hkn : k = (ol f.names).length := by omega
      have hall := nm_all (l := ol f.names) (fun j hj => hb j (by omega))
      simp [NmE, hkl, NmT, hg, hall])
  clear hL
  obtain ⟨t1, t2, t3, ⟨rfl, t4, t5⟩ | ⟨rfl, t4, t5⟩⟩ := hT
  · simp only at t1 t2 t3 t4
    refine ⟨st'.S, ?_, t3⟩
    simp [t1, t2, t5, getT_setT_self, t4]
  · simp only at t1 t2 t3 t4
    refine ⟨st'.S, ?_, t3⟩
    simp [t1, t2, t4, t5]
end Go.Ab.Seat
/- What is caught, and right and Check. -/
namespace Go.Ab
variable {P : Program} {H : Handler} {pol : Pol} {f : FuncId} {N : Nat}
theorem loop_step {keep : Option (List Bool)} {body : St → Option (AExit × St)} {st : St} : loopN keep body (N + 1) st = contK (body (st.masked keep)) (loopN keep body N) := (rfl)
theorem contK_normal (st : St) (k : St → Option (AExit × St)) : contK (some (.normal, st)) k = k st := (rfl)
theorem get_new_eq {S : Sto} {o : Obj} {id : Nat} (h : id = S.next) : (S.new o).get id = some o := by subst h; exact get_new_self S o
theorem put_new_eq {S : Sto} {o o' : Obj} {id : Nat} (h : id = S.next) : (S.new o).put id o' = S.new o' := by subst h; simp [Sto.put, Sto.new, Sto.putIn]
theorem put_new_ne {S : Sto} {o o' : Obj} {id : Nat} (h : id ≠ S.next) : (S.new o).put id o' = (S.put id o').new o := by
  simp [Sto.put, Sto.new, Sto.putIn, Ne.symm h]
attribute [simp] contK_normal get_new_eq put_new_eq get_new_ne
end Go.Ab
namespace Go.Ab.Seat
open Go.Proofs
set_option maxRecDepth 100000
set_option maxHeartbeats 2000000
variable {H : Handler} {N : Nat} {S : Sto}
def errV (k : Int) (r : Bool) : APan := ⟨.iface 29 (.int .i64 k), r⟩
theorem ifneq (v : AV) : binA Try.prog .neq 20 true (.iface 29 v) .niliface = some (.bool true) := by kernel_rfl
theorem ifneq0 : binA Try.prog .neq 20 true .niliface .niliface = some (.bool false) := by kernel_rfl
theorem ifas (v : AV) : assertA Try.prog (.iface 29 v) 29 true = some (.tup [v, .bool true]) := by simp [assertA]
theorem caught_ret {n : Nat} (args : List AV) (e : Nat) (g : FuncId) (first cap : List AV) (h : args = [.ptr e 0, .fn (.func g) first cap]) : (handler Try.prog ppol (n + 1)).callD 30 args .returning S = some (.ret .undef, .returning, S) := by
  subst h
  rw [callD_eq, runFn_eq Try.func30 (by rfl)]
  simp [Try.f30, ifneq0]
theorem caught_pan {n e : Nat} {S1 : Sto} {x v : AV} (g : FuncId) (cap : List AV) (k : Int) (hc : (handler Try.prog ppol n).call (.func g) cap S = some (.ret v, S1)) (he : S1.get e = some (.cells [x])) :
    (handler Try.prog ppol (n + 1)).callD 30 [.ptr e 0, .fn (.func g) [] cap] (.panicking [⟨.iface 29 (.int .i64 k), false⟩]) S = some (.ret .undef, .panicking [⟨.iface 29 (.int .i64 k), true⟩], S1.put e (.cells [.int .i64 k])) := by
  rw [callD_eq, runFn_eq Try.func30 (by rfl)]
  simp [Try.f30, ifneq, ifas, hc, he, writeCells]
def rightOk (f : FileV) : Bool := sizesOk f && !pBad 0 (ol f.parts) && namesOk (ol f.names)
/-- What is small enough to be looked at. -/
structure Small (f : FileV) (n : Nat) : Prop where
  parts : (ol f.parts).length ≤ 6000
  names : (ol f.names).length ≤ 6000
  each : ∀ s ∈ ol f.names, s.name.length ≤ 300
  big : 6400 < n
theorem Small.up {f : FileV} {n m : Nat} (h : Small f n) (hm : n ≤ m) : Small f m := ⟨h.parts, h.names, h.each, Nat.lt_of_lt_of_le h.big hm⟩
theorem right_run {n : Nat} (f : FileV) (h : Small f n) :
    ∃ S', runFn Try.prog (handler Try.prog ppol (n + 5)) (N + 4) ppol 32 .none [.agg (fileC f)] S = some (if rightOk f then .ret .undef else errPan, .none, S') ∧ Grew [] S S' := by
  obtain ⟨h1, h2, h3, h4⟩ := h
  have hg0 : Grew [] S ((S.new (.cells (fileC f))).new (.cells [.int .i64 0])) := (Grew.new _ _ (.cells (fileC f)) (goodFile f)).trans (Grew.new _ _ _ (by simp))
  have ha : ((S.new (.cells (fileC f))).new (.cells [.int .i64 0])).get S.next = some (.cells (fileC f)) := by
    rw [get_new_ne (by simp)]; exact get_new_self _ _
  have hb : ((S.new (.cells (fileC f))).new (.cells [.int .i64 0])).get (S.next + 1) = some (.cells [.int .i64 0]) := get_new_self _ _
  rw [runFn_eq Try.func32 (by rfl)]
  simp [Try.f32, writeCells, buildSliceA, fillRows, lenA]
  generalize hS2 : (S.new (.cells (fileC f))).new (.cells [.int .i64 0]) = S2 at *
  have hn2 : S2.next = S.next + 2 := by rw [← hS2]; rfl
  have c1 : (handler Try.prog ppol (n + 5)).call (.func 62) [.ptr S.next 0] S2 = some (.ret (.bool (sizesOk f)), S2) := by
    rw [call_func (by rfl), right1_run f ha]; rfl
  obtain ⟨y, e2⟩ := right2_run (n := n) (N := n + 4) f 0 (by omega) (by omega) ha hb
  have c2 : (handler Try.prog ppol (n + 5)).call (.func 63) [.ptr S.next 0, .ptr (S.next + 1) 0] S2 = some (.ret (.bool !pBad 0 (ol f.parts)), S2.put (S.next + 1) (.cells [.int .i64 y])) := by
    rw [call_func (by rfl), e2]; rfl
  have ha3 : (S2.put (S.next + 1) (.cells [.int .i64 y])).get S.next = some (.cells (fileC f)) := by rw [get_put_ne (by omega)]; exact ha
  obtain ⟨S4, e3, hg4⟩ := right3_run (n := n) (N := n + 4) f (by omega) (by omega) (by omega) h3 ha3 (by rw [next_put]; omega)
  have c3 : (handler Try.prog ppol (n + 5)).call (.func 66) [.ptr S.next 0] (S2.put (S.next + 1) (.cells [.int .i64 y])) = some (.ret (.bool (namesOk (ol f.names))), S4) := by
    rw [call_func (by rfl), e3]; rfl
  have hg3 : Grew [] S (S2.put (S.next + 1) (.cells [.int .i64 y])) := hg0.behind (Grew.put (x := [S.next + 1]) _ _ (.inl (by simp)) (by simp)) (by simp)
  have hr : rightOk f = (sizesOk f && !pBad 0 (ol f.parts) && namesOk (ol f.names)) := rfl
  rw [loop_step]
  cases k1 : sizesOk f <;> rw [k1] at c1 hr
  · refine ⟨S2, ?_, hg0⟩
    simp [indexAddrA, c1, must_call, hr, errPan]
  · simp [indexAddrA, c1, must_call]
    rw [loop_step]
    cases k2 : pBad 0 (ol f.parts) <;> rw [k2] at c2 hr
    · have w1 : IntKind.i64.wrap 1 = 1 := Go.IntWalk.i64_in _ (by omega)
      have w2 : IntKind.i64.wrap 2 = 2 := Go.IntWalk.i64_in _ (by omega)
      have w3 : IntKind.i64.wrap 3 = 3 := Go.IntWalk.i64_in _ (by omega)
      simp only [Bool.not_false] at c2
      simp [indexAddrA, c2, must_call, w1, w2]
      rw [loop_step]
      cases k3 : namesOk (ol f.names) <;> rw [k3] at c3 hr
      · refine ⟨S4, ?_, hg3.trans hg4⟩
        simp [indexAddrA, c3, must_call, hr, errPan]
      · refine ⟨S4, ?_, hg3.trans hg4⟩
        simp [indexAddrA, c3, must_call, hr, w3]
        rw [loop_step]
        simp
    · have w1 : IntKind.i64.wrap 1 = 1 := Go.IntWalk.i64_in _ (by omega)
      refine ⟨S2.put (S.next + 1) (.cells [.int .i64 y]), ?_, hg3⟩
      simp only [Bool.not_true] at c2
      simp [indexAddrA, c2, must_call, hr, errPan, w1]
theorem right_call {n : Nat} (f : FileV) (h : Small f n) :
    ∃ S', (handler Try.prog ppol (n + 6)).call (.func 32) [.agg (fileC f)] S = some (if rightOk f then .ret .undef else errPan, S') ∧ Grew [] S S' := by
  obtain ⟨S', e, hg⟩ := right_run (n := n) (N := n + 1) (S := S) f h
  exact ⟨S', by rw [call_func (by rfl), e]; rfl, hg⟩
theorem check_run {n : Nat} (f : FileV) (h : Small f n) :
    ∃ S', runFn Try.prog (handler Try.prog ppol (n + 6)) N ppol 27 .none [.agg (fileC f)] S = some (.ret (.int .i64 (if rightOk f then 0 else 310)), .none, S') ∧ Grew [] S S' := by
  obtain ⟨S', e, hg⟩ := right_call (n := n) (S := S.new (.cells [.int .i64 0])) f h
  have hget : S'.get S.next = some (.cells [.int .i64 0]) := (hg.get _ (by simp [next_new]) (by simp)).trans (get_new_self _ _)
  have hg1 : Grew [] S S' := (Grew.new _ _ _ (by simp)).trans hg
  rw [runFn_eq Try.func27 (by rfl)]
  cases k : rightOk f <;> rw [k] at e
  · refine ⟨S'.put S.next (.cells [.int .i64 310]), ?_, hg1.behind (Grew.put (x := [S.next]) _ _ (.inl (by simp)) (by simp)) (by simp)⟩
    have hc : (handler Try.prog ppol (n + 5)).call (.func 58) [] S' = some (.ret .undef, S') := by
      rw [call_func (by rfl), runFn_eq Try.func58 (by rfl)]; simp [Try.f58]
    have hp := caught_pan (n := n + 5) (S := S') (S1 := S') 58 [] 310 hc hget
    simp [Try.f27, e, errPan, hp, get_put_self hget, takeCells_eq, isAggV]
  · refine ⟨S', ?_, hg1⟩
    have hq := caught_ret (n := n + 5) (S := S') _ S.next 58 [] [] rfl
    simp [Try.f27, e, hget, writeCells, put_self hget, hq, takeCells_eq, isAggV]
theorem check_call {n : Nat} (f : FileV) (h : Small f n) :
    ∃ S', (handler Try.prog ppol (n + 7)).call (.func 27) [.agg (fileC f)] S = some (.ret (.int .i64 (if rightOk f then 0 else 310)), S') ∧ Grew [] S S' := by
  obtain ⟨S', e, hg⟩ := check_run (n := n) (N := n + 6) (S := S) f h
  exact ⟨S', by rw [call_func (by rfl), e]; rfl, hg⟩
end Go.Ab.Seat
/- Files of memory of their own; going over the parts. -/
namespace Go.Ab
variable {P : Program} {H : Handler} {pol : Pol} {f : FuncId} {N : Nat}
def arrOf : Option Obj → Option (List (List AV))
  | some (.arr _ rows) => some rows
  | _ => none
theorem loadA_aptr {S : Sto} {env : List AV} {t : TypeId} {id r off es : Nat} {rows : List (List AV)} {row : List AV} (h : S.get id = some (.arr es rows)) (hr : rows[r]? = some row) : loadA P S env t (.aptr id r off) = valAt P t (row.drop off) := by
  simp only [loadA, h, hr]
theorem storeS_aptr {st : St} {t : TypeId} {id r off es : Nat} {rows : List (List AV)} {row row' : List AV} {v : AV} (h : st.S.get id = some (.arr es rows)) (hr : rows[r]? = some row) (hw : writeCells P t off row v.strip1 = some row') (hrow : row' = row) : storeS P t (.aptr id r off) v st = some (.val .undef st) := by
  subst hrow
  have e1 : rows.set r row' = rows := by
    have hlt := (List.getElem?_eq_some_iff.1 hr).1
    have he := (List.getElem?_eq_some_iff.1 hr).2
    rw [← he]; exact List.set_getElem_self hlt
  simp only [storeS, h, hr, hw, Option.map_some, e1, put_self h]
theorem index_rsl {t e : TypeId} {id es len : Nat} {i : Nat} {k : IntKind} (ht : P.underlying t = some (.slice e)) (he : P.cellsOf e = es) (h : i < len) (h0 : 0 < es) : indexAddrA P t (.rsl id es 0 len) (.int k i) = some (.aptr id i 0) := by
  subst he
  simp only [indexAddrA, ht]
  rw [if_pos ⟨by omega, by omega, by simp, h0⟩]
  simp
/-- What a slice of an array of the store's has. -/
inductive SlV {X : Type} (S : Sto) (es : Nat) (g : X → List AV) (lo : Nat) : Option (List X) → AV → Prop
  | nil : SlV S es g lo none .nilsl
  | arr {xs : List X} {id : Nat} (h : S.get id = some (.arr es (xs.map g))) (hlo : lo ≤ id) (hid : id < S.next) : SlV S es g lo (some xs) (.rsl id es 0 xs.length)
theorem SlV.mono {X : Type} {S S' : Sto} {es : Nat} {g : X → List AV} {lo : Nat} {o : Option (List X)} {v : AV} {x : List Nat} (h : SlV S es g lo o v) (hg : Grew x S S') (hx : ∀ a ∈ x, a < lo ∨ S.next ≤ a) : SlV S' es g lo o v := by
  cases h with
  | nil => exact .nil
  | arr h hlo hid =>
    refine .arr ?_ hlo (Nat.lt_of_lt_of_le hid hg.next)
    rw [hg.get _ hid (fun hm => by have := hx _ hm; omega)]; exact h
theorem SlV.lower {X : Type} {S : Sto} {es : Nat} {g : X → List AV} {lo lo' : Nat} {o : Option (List X)} {v : AV} (h : SlV S es g lo o v) (hl : lo' ≤ lo) : SlV S es g lo' o v := by
  cases h with
  | nil => exact .nil
  | arr h hlo hid => exact .arr h (Nat.le_trans hl hlo) hid
theorem app_heap_nil {st xt e : TypeId} {es : Nat} {d : TypeDesc} {v : AV} {s : St} {z : AV} {id : Nat} (h1 : P.underlying st = some (.slice e)) (h2 : P.underlying xt = some d) (hd : ∀ k, d ≠ .int k) (hz : zeroA P e = some z) (hzl : z.cells.length = es) (hes : P.cellsOf e = es)
    (hm : rowsIn s.S es v = some []) : appendS P 2 st xt (.rsl id es 0 0) v s = some (.val (.rsl id es 0 0) s) := by
  subst hes
  unfold appendS
  simp only [h1, hz, if_pos hzl]
  rw [if_neg (show ¬ (2 = 0) by decide), more_slice h2 hd, hm]
  rfl
theorem app_heap_cons {st xt e : TypeId} {es : Nat} {d : TypeDesc} {m : List AV} {more : List (List AV)} {v : AV} {s : St} {z : AV} {id : Nat} (h1 : P.underlying st = some (.slice e)) (h2 : P.underlying xt = some d) (hd : ∀ k, d ≠ .int k) (hz : zeroA P e = some z) (hzl : z.cells.length = es) (hes : P.cellsOf e = es)
    (hm : rowsIn s.S es v = some (m :: more)) (hb : ¬ bigA P e (more.length + 1)) (hg : s.S.get id = some (.arr es [])) : appendS P 2 st xt (.rsl id es 0 0) v s = some (.val (.rsl s.S.next es 0 (more.length + 1)) { s with S := (s.S.drop id).new (.arr es (m :: more)) }) := by
  subst hes
  unfold appendS
  simp only [h1, hz, if_pos hzl]
  rw [if_neg (show ¬ (2 = 0) by decide), more_slice h2 hd, hm]
  simp only [if_true, appHeap, hg]
  rw [if_neg (by simpa using hb), if_neg (by simp), if_pos (by simp)]
  simp
end Go.Ab
namespace Go.Ab.Seat
open Go.Proofs
set_option maxRecDepth 100000
set_option maxHeartbeats 2000000
variable {H : Handler} {N : Nat} {S : Sto}
theorem goodR {X : Type} {g : X → List AV} (hg : ∀ x, sameL (g x) (g x) = true) (e : Nat) (l : List X) : goodO (.arr e (l.map g)) = true := by
  rw [good_arr]; exact sameR_map hg l
theorem not_big45 (n : Nat) (h : n < 2 ^ 30) : ¬ bigA Try.prog 45 n := by
  unfold bigA
  simp
  omega
theorem not_big64 (n : Nat) (h : n < 2 ^ 30) : ¬ bigA Try.prog 64 n := by
  unfold bigA
  simp
  omega
theorem cloneP_run (o : Option (List PartV)) (hb : (ol o).length < 2 ^ 30) : ∃ v S', runFn Try.prog H N ppol 76 .none [sv false 2 partRow o] S = some (.ret v, .none, S') ∧ Grew [] S S' ∧ SlV S' 2 partRow S.next o v := by
  rw [runFn_eq Try.func76 (by rfl)]
  cases o with
  | none => exact ⟨.nilsl, S, by simp [Try.f76, sv], Grew.refl _ _, .nil⟩
  | some xs =>
    have hg1 : Grew [] S (S.new (.arr 2 [])) := Grew.new _ _ _ rfl
    cases xs with
    | nil =>
      refine ⟨.rsl S.next 2 0 0, S.new (.arr 2 []), ?_, hg1, .arr (xs := []) (get_new_self _ _) (Nat.le_refl _) (by simp [next_new])⟩
      simp [Try.f76, buildSliceA, fillRows, asArr]
      rw [app_heap_nil (es := 2) Try.underlying22 Try.underlying22 (by simp) tyzero45 rfl tycells45 ?_]
      · simp
      · simp [ol]
    | cons x xs =>
      refine ⟨.rsl (S.next + 1) 2 0 (xs.length + 1), ((S.new (.arr 2 [])).drop S.next).new (.arr 2 ((x :: xs).map partRow)), ?_, ?_, .arr (xs := x :: xs) (get_new_self _ _) (by omega) (by simp [next_new])⟩
      · simp [Try.f76, buildSliceA, fillRows, asArr]
        rw [app_heap_cons (es := 2) (m := partRow x) (more := xs.map partRow) Try.underlying22 Try.underlying22 (by simp) tyzero45 rfl tycells45 ?_ (not_big45 _ (by simpa [ol] using hb)) ?_]
        · simp
        · simp [ol]
        · simp
      · exact (hg1.behind (Grew.drop (x := [S.next]) _ (.inl (by simp))) (by simp)).trans (Grew.new _ _ _ (goodR goodPart 2 (x :: xs)))
theorem cloneS_run (o : Option (List SymV)) (hb : (ol o).length < 2 ^ 30) : ∃ v S', runFn Try.prog H N ppol 77 .none [sv false 2 symRow o] S = some (.ret v, .none, S') ∧ Grew [] S S' ∧ SlV S' 2 symRow S.next o v := by
  rw [runFn_eq Try.func77 (by rfl)]
  cases o with
  | none => exact ⟨.nilsl, S, by simp [Try.f77, sv], Grew.refl _ _, .nil⟩
  | some xs =>
    have hg1 : Grew [] S (S.new (.arr 2 [])) := Grew.new _ _ _ rfl
    cases xs with
    | nil =>
      refine ⟨.rsl S.next 2 0 0, S.new (.arr 2 []), ?_, hg1, .arr (xs := []) (get_new_self _ _) (Nat.le_refl _) (by simp [next_new])⟩
      simp [Try.f77, buildSliceA, fillRows, asArr]
      rw [app_heap_nil (es := 2) Try.underlying23 Try.underlying23 (by simp) tyzero64 rfl tycells64 ?_]
      · simp
      · simp [ol]
    | cons x xs =>
      refine ⟨.rsl (S.next + 1) 2 0 (xs.length + 1), ((S.new (.arr 2 [])).drop S.next).new (.arr 2 ((x :: xs).map symRow)), ?_, ?_, .arr (xs := x :: xs) (get_new_self _ _) (by omega) (by simp [next_new])⟩
      · simp [Try.f77, buildSliceA, fillRows, asArr]
        rw [app_heap_cons (es := 2) (m := symRow x) (more := xs.map symRow) Try.underlying23 Try.underlying23 (by simp) tyzero64 rfl tycells64 ?_ (not_big64 _ (by simpa [ol] using hb)) ?_]
        · simp
        · simp [ol]
        · simp
      · exact (hg1.behind (Grew.drop (x := [S.next]) _ (.inl (by simp))) (by simp)).trans (Grew.new _ _ _ (goodR goodSym 2 (x :: xs)))
end Go.Ab.Seat
/- Files of memory of their own; going over the parts: own, Parts and the loop. -/
namespace Go.Ab
variable {P : Program}
theorem storeS_arr {env : List AV} {defs : List ADef} {par : AMode} {S : Sto} {t : TypeId} {id r off es : Nat} {rows : List (List AV)} {row : List AV} {v : AV} (h : S.get id = some (.arr es rows)) (hr : rows[r]? = some row) (hw : writeCells P t off row v.strip1 = some row) :
    storeS P t (.aptr id r off) v { env := env, defs := defs, par := par, S := S } = some (.val .undef { env := env, defs := defs, par := par, S := S }) := storeS_aptr h hr hw rfl
end Go.Ab
namespace Go.Ab.Seat
open Go.Proofs
set_option maxRecDepth 100000
set_option maxHeartbeats 2000000
variable {H : Handler} {N : Nat} {S : Sto}
theorem clone_call {n : Nat} (own : Bool) (o : Option (List UInt8)) (hb : (ol o).length < 2 ^ 40) : (handler Try.prog ppol (n + 1)).call (.func 39) [sv own 1 byteRow o] S = some (.ret (sv true 1 byteRow o), S) := by
  rw [call_func (by rfl), clone_run own o hb]; rfl
theorem own_run {n : Nat} (f : FileV) (hk : SOK S) (h1 : (ol f.parts).length < 2 ^ 30) (h2 : (ol f.names).length < 2 ^ 30) (hN : (ol f.parts).length < N) (hp : ∀ p ∈ ol f.parts, (ol p.bytes).length < 2 ^ 40) :
    ∃ v w S', runFn Try.prog (handler Try.prog ppol (n + 2)) N ppol 49 .none [.agg (fileC f)] S = some (.ret (.agg [v, w]), .none, S') ∧ Grew [] S S' ∧ SlV S' 2 partRow S.next f.parts v ∧ SlV S' 2 symRow S.next f.names w := by
  obtain ⟨v, S1, e1, hg1, hv⟩ := cloneP_run (H := handler Try.prog ppol (n + 1)) (N := n + 1) (S := S) f.parts h1
  obtain ⟨w, S2, e2, hg2, hw⟩ := cloneS_run (H := handler Try.prog ppol (n + 1)) (N := n + 1) (S := S1) f.names h2
  have c1 : (handler Try.prog ppol (n + 2)).call (.func 76) [sv false 2 partRow f.parts] S = some (.ret v, S1) := by
    rw [call_func (by rfl), e1]; rfl
  have c2 : (handler Try.prog ppol (n + 2)).call (.func 77) [sv false 2 symRow f.names] S1 = some (.ret w, S2) := by
    rw [call_func (by rfl), e2]; rfl
  have hg : Grew [] S S2 := hg1.trans hg2
  have hk2 : SOK S2 := hg.sok hk
  have hv2 : SlV S2 2 partRow S.next f.parts v := hv.mono hg2 (by simp)
  have hw2 : SlV S2 2 symRow S.next f.names w := hw.lower hg1.next
  refine ⟨v, w, S2, ?_, hg, hv2, hw2⟩
  have hw0 : w.strip0 = w ∧ okTop w = true ∧ w.cells = [w] ∧ w.clr = w ∧ w.noLp = w ∧ w.strip = w ∧ isAggV w = false ∧ (∀ (x : Option (AExit × St)), nbK w x = x) := by
    revert hw2
    generalize f.names = oo
    intro hw2
    cases hw2 <;> simp [isAggV]
  obtain ⟨w1, w2, w3, w4, w5, w6, w7, w8⟩ := hw0
  have hsk := fun x => sK_grew (α := AExit × St) hk hg1 x
  rw [runFn_eq Try.func49 (by rfl)]
  simp [Try.f49, fileC]
  rw [evDraw_go]
  · generalize hfp : f.parts = o at *
    cases hv2 with
    | nil =>
      simp [c1, c2, hsk, w1, w2, w3, w4, w5, w6, w8, writeCells, lenA]
      rw [show N = (N - 1) + 1 by omega, loop_step]
      simp [w1, writeCells, takeCells_eq]
    | arr ha hlo hid =>
      rename_i xs id
      simp [c1, c2, hsk, w1, w2, w3, w4, w5, w6, w8, writeCells, lenA]
      simp only [ol, Option.getD_some] at h1 hN hp
      rw [loop_go (fun k => { env := envOf 32 [(1, .box [.rsl id 2 0 xs.length, w]), (2, .box [.nilsl, .nilsl]), (14, .int .i64 xs.length), (15, .int .i64 k)], defs := [], par := .none, S := S2 }) xs.length hN]
      · simp [w1, writeCells, takeCells_eq]
      · simp
      · intro k hk'
        obtain ⟨p, hp1⟩ : ∃ p, xs[k]? = some p := ⟨_, List.getElem?_eq_getElem hk'⟩
        have hrow : (xs.map partRow)[k]? = some (partRow p) := by rw [List.getElem?_map, hp1]; rfl
        have hix := index_rsl (id := id) (k := .i64) (len := xs.length) Try.underlying22 tycells45 hk' (by omega)
        have hln := fun env t off => loadA_aptr (P := Try.prog) (env := env) (t := t) (off := off) ha hrow
        have hst := fun env defs par => storeS_arr (P := Try.prog) (env := env) (defs := defs) (par := par) (t := 28) (off := 1) (v := sv true 1 byteRow p.bytes) ha hrow (by simp [writeCells, partRow])
        have g7 : IntKind.i64.wrap ((k : Int) + 1) = (k : Int) + 1 := wrap_succ hk' (by omega)
        have hsk2 := fun x => sK_self (α := AExit × St) hk2 x
        have hcl := fun own => clone_call (n := n + 1) (S := S2) own p.bytes (hp p (List.mem_of_getElem? hp1))
        simp [hk']
        rw [evDraw_go]
        · simp [w1, hix, hln, hst, hcl, hsk2, g7, partRow]
        · kernel_rfl
  · kernel_rfl
end Go.Ab.Seat
/- Going over the parts. -/
namespace Go.Ab.Seat
open Go.Proofs
set_option maxRecDepth 100000
set_option maxHeartbeats 2000000
variable {H : Handler} {N : Nat} {S : Sto}
theorem pBad_each : ∀ {l : List PartV} {x : Int}, pBad x l = false → ∀ p ∈ l, (ol p.bytes).length ≤ 2048
  | [], _, _, p, hp => by cases hp
  | q :: l, x, h, p, hp => by
    simp only [pBad, Bool.or_eq_false_iff] at h
    rcases List.mem_cons.1 hp with rfl | hp
    · have := h.1
      unfold badP at this
      simp only [Bool.or_eq_false_iff, decide_eq_false_iff_not] at this
      omega
    · exact pBad_each h.2 p hp
theorem rightOk_parts {f : FileV} (h : rightOk f = true) : pBad 0 (ol f.parts) = false := by
  unfold rightOk at h
  cases hb : pBad 0 (ol f.parts) with
  | false => rfl
  | true => rw [hb] at h; simp at h
theorem own_call {n : Nat} (f : FileV) (hk : SOK S) (h1 : (ol f.parts).length < 2 ^ 30) (h2 : (ol f.names).length < 2 ^ 30) (hN : (ol f.parts).length < n + 2) (hp : ∀ p ∈ ol f.parts, (ol p.bytes).length < 2 ^ 40) :
    ∃ v w S', (handler Try.prog ppol (n + 3)).call (.func 49) [.agg (fileC f)] S = some (.ret (.agg [v, w]), S') ∧ Grew [] S S' ∧ SlV S' 2 partRow S.next f.parts v ∧ SlV S' 2 symRow S.next f.names w := by
  obtain ⟨v, w, S', e, h⟩ := own_run (n := n) (N := n + 2) f hk h1 h2 hN hp
  exact ⟨v, w, S', by rw [call_func (by rfl), e]; rfl, h⟩
def okParts (f : FileV) : Option (List PartV) := if rightOk f then f.parts else none
theorem parts_run {n : Nat} (f : FileV) (h : Small f n) (hk : SOK S) :
    ∃ v S', runFn Try.prog (handler Try.prog ppol (n + 7)) N ppol 19 .none [.agg (fileC f)] S = some (.ret (.fn (.func 53) [] [.ptr S.next 0]), .none, S') ∧ Grew [] S S' ∧ S'.get S.next = some (.cells [v]) ∧ S.next < S'.next ∧ SlV S' 2 partRow (S.next + 1) (okParts f) v := by
  have hg0 : Grew [] S (S.new (.cells [.nilsl])) := Grew.new _ _ _ (by simp)
  obtain ⟨S1, e1, hg1⟩ := check_call (n := n) (S := S.new (.cells [.nilsl])) f h
  have hget1 : S1.get S.next = some (.cells [.nilsl]) := (hg1.get _ (by simp [next_new]) (by simp)).trans (get_new_self _ _)
  have hn1 : S.next + 1 ≤ S1.next := hg1.next
  rw [runFn_eq Try.func19 (by rfl)]
  cases hok : rightOk f <;> rw [hok] at e1
  · refine ⟨.nilsl, S1, ?_, hg0.trans hg1, hget1, hn1, ?_⟩
    · simp [Try.f19, e1]
    · unfold okParts; rw [hok]; exact .nil
  · obtain ⟨v, w, S2, e2, hg2, hv, hw⟩ := own_call (n := n + 4) (S := S1) f (hg1.sok (hg0.sok hk)) (by have := h.parts; omega) (by have := h.names; omega) (by have := h.parts; have := h.big; omega) (fun p hp => by have := pBad_each (rightOk_parts hok) p hp; omega)
    have hget2 : S2.get S.next = some (.cells [.nilsl]) := (hg2.get _ (by omega) (by simp)).trans hget1
    have hg02 : Grew [] S S2 := (hg0.trans hg1).trans hg2
    have hn2 := hg2.next
    have hv0 : v.strip0 = v ∧ okTop v = true ∧ v.cells = [v] ∧ v.clr = v ∧ v.noLp = v ∧ v.strip = v ∧ sameL [v] [v] = true := by
      revert hv
      generalize f.parts = oo
      intro hv
      cases hv <;> simp
    obtain ⟨w1, w2, w3, w4, w5, w6, w7⟩ := hv0
    have hw1 : w.strip0 = w := by
      revert hw
      generalize f.names = oo
      intro hw
      cases hw <;> simp
    have hgp : Grew [S.next] S2 (S2.put S.next (.cells [v])) := Grew.put _ _ (.inl (by simp)) (by rw [good_cells]; exact w7)
    refine ⟨v, S2.put S.next (.cells [v]), ?_, hg02.behind hgp (by simp), get_put_self hget2, by rw [next_put]; omega, ?_⟩
    · simp [Try.f19, e1, e2, w1, w2, w3, w4, w5, w6, hw1, hget2, writeCells]
    · unfold okParts
      rw [hok]
      exact (hv.lower hn1).mono hgp (fun a ha => by simp at ha; omega)
theorem parts_call {n : Nat} (f : FileV) (h : Small f n) (hk : SOK S) :
    ∃ v S', (handler Try.prog ppol (n + 8)).call (.func 19) [.agg (fileC f)] S = some (.ret (.fn (.func 53) [] [.ptr S.next 0]), S') ∧ Grew [] S S' ∧ S'.get S.next = some (.cells [v]) ∧ S.next < S'.next ∧ SlV S' 2 partRow (S.next + 1) (okParts f) v := by
  obtain ⟨v, S', e, h⟩ := parts_run (n := n) (N := n + 7) f h hk
  exact ⟨v, S', by rw [call_func (by rfl), e]; rfl, h⟩
/-! ### The loop -/
structure PgI (Inv : Nat → Sto → Prop) (m : Nat) where
  k : Nat
  S1 : Sto
  hk : k ≤ m
  hI : Inv k S1
def PgE (Inv : Nat → Sto → Prop) (m : Nat) (y : Nat) (v : AV) (i : PgI Inv m) : St := { env := envOf 20 [(0, .yld y), (5, v), (6, .int .i64 m), (7, .int .i64 i.k)], defs := [], par := .none, S := i.S1 }
def PgT (Inv : Nat → Sto → Prop) (Stop : Sto → Prop) (m : Nat) (r : AExit × St) : Prop := r.1 = .exit 0 ∧ r.2.defs = [] ∧ r.2.par = .none ∧ (Inv m r.2.S ∨ Stop r.2.S)
theorem partsGo_run {n y c lo : Nat} {o : Option (List PartV)} {v : AV} (Inv : Nat → Sto → Prop) (Stop : Sto → Prop) (hc : S.get c = some (.cells [v])) (hm : (ol o).length < 2 ^ 30) (hN : (ol o).length < N) (hb : ∀ p ∈ ol o, (ol p.bytes).length < 2 ^ 40) (h0 : Inv 0 S)
    (hI : ∀ k S1, Inv k S1 → SOK S1 ∧ SlV S1 2 partRow lo o v)
    (hy : ∀ k p S1, Inv k S1 → (ol o)[k]? = some p → ∃ b S2, (handler Try.prog ppol (n + 1)).call (.yield y) [.int .i64 p.at', sv true 1 byteRow p.bytes] S1 = some (.ret (.bool b), S2) ∧ (b = true → Inv (k + 1) S2) ∧ (b = false → Stop S2)) :
    ∃ S', runFn Try.prog (handler Try.prog ppol (n + 1)) N ppol 53 .none [.yld y, .ptr c 0] S = some (.ret .undef, .none, S') ∧ (Inv (ol o).length S' ∨ Stop S') := by
  obtain ⟨-, hv⟩ := hI 0 S h0
  rw [runFn_eq Try.func53 (by rfl)]
  cases hv with
  | nil =>
    refine ⟨S, ?_, .inl h0⟩
    simp [Try.f53, hc, lenA]
    rw [show N = (N - 1) + 1 by simp [ol] at hN; omega, loop_step]
    simp
  | arr ha hlo hid =>
    rename_i xs id
    simp only [ol, Option.getD_some] at hm hN hb hy
    simp [Try.f53, hc, lenA]
    generalize hL : loopN _ _ _ _ = L
    obtain ⟨x, st', rfl, hT⟩ := loop_fam' hL (PgE Inv xs.length y (.rsl id 2 0 xs.length)) (fun _ => PgT Inv Stop xs.length) (fun i => xs.length - i.k) ⟨0, S, by omega, h0⟩ (by show _ - 0 < N; omega) (by simp [PgE]) (fun i => by
      obtain ⟨k, S1, hk, hI1⟩ := i
      clear hL
      obtain ⟨hs1, hv1⟩ := hI k S1 hI1
      by_cases hkl : k < xs.length
      · obtain ⟨p, hp1⟩ : ∃ p, xs[k]? = some p := ⟨_, List.getElem?_eq_getElem hkl⟩
        have ha1 : S1.get id = some (.arr 2 (xs.map partRow)) := by
          cases hv1 with
          | arr h _ _ => exact h
        have hrow : (xs.map partRow)[k]? = some (partRow p) := by rw [List.getElem?_map, hp1]; rfl
        have hix := index_rsl (id := id) (k := .i64) (len := xs.length) Try.underlying22 tycells45 hkl (by omega)
        have hln := fun env t off => loadA_aptr (P := Try.prog) (env := env) (t := t) (off := off) ha1 hrow
        have g7 : IntKind.i64.wrap ((k : Int) + 1) = (k : Int) + 1 := wrap_succ hkl (by omega)
        have hsk2 := fun x => sK_self (α := AExit × St) hs1 x
        have hcl := fun own => clone_call (n := n) (S := S1) own p.bytes (hb p (List.mem_of_getElem? hp1))
        obtain ⟨b, S2, hy1, hy2, hy3⟩ := hy k p S1 hI1 hp1
        cases b
        · simp [PgE, hkl, hix, hln, writeCells, partRow]
          rw [evDraw_go]
          · simp [hcl, hsk2, hy1, PgT, hy3 rfl]
          · kernel_rfl
        · simp [PgE, hkl, hix, hln, writeCells, partRow]
          rw [evDraw_go]
          · simp [hcl, hsk2, hy1, g7]
            refine ⟨⟨k + 1, S2, hkl, hy2 rfl⟩, ?_, ?_⟩
            · show _ - (k + 1) < _ - k; omega
            · simp [PgE]
          · kernel_rfl
      · have : k = xs.length := by omega
        subst this
        simp [PgE, PgT, hI1])
    obtain ⟨rfl, t1, t2, t3⟩ := hT
    simp only at t1 t2 t3
    refine ⟨st'.S, ?_, t3⟩
    simp [t1, t2]
end Go.Ab.Seat
/- What a file's bytes are. -/
namespace Go.Ab.Seat
open Go.Proofs
set_option maxRecDepth 100000
set_option maxHeartbeats 2000000
variable {H : Handler} {N : Nat} {S : Sto}
@[simp] theorem fileC_head (f : FileV) : (fileC f).head? = some (sv false 2 partRow f.parts) := (rfl)
@[simp] theorem fileC_drop1 (f : FileV) : (fileC f).drop 1 = [sv false 2 symRow f.names] := (rfl)
@[simp] theorem fileC_get1 (f : FileV) (h : 1 < (fileC f).length) : (fileC f)[1]'h = sv false 2 symRow f.names := (rfl)
@[simp] theorem partRow_get1 (p : PartV) (h : 1 < (partRow p).length) : (partRow p)[1]'h = sv false 1 byteRow p.bytes := (rfl)
@[simp] theorem symRow_get1 (p : SymV) (h : 1 < (symRow p).length) : (symRow p)[1]'h = .int .i64 p.at' := (rfl)
@[simp] theorem partRow_head (p : PartV) : (partRow p).head? = some (.int .i64 p.at') := (rfl)
@[simp] theorem partRow_drop1 (p : PartV) : (partRow p).drop 1 = [sv false 1 byteRow p.bytes] := (rfl)
@[simp] theorem symRow_head (p : SymV) : (symRow p).head? = some (.str p.name) := (rfl)
@[simp] theorem symRow_drop1 (p : SymV) : (symRow p).drop 1 = [.int .i64 p.at'] := (rfl)
theorem numbers_call {n id : Nat} (own : Bool) (bs : List UInt8) (l : List Nat) (hl : ∀ n ∈ l, n < 2 ^ 20) (hb : bs.length + l.length * 2 ^ 20 < 2 ^ 39) (hn : 2 ^ 20 < n) (hS : S.get id = some (.cells [.sl true 1 (bs.map byteRow)])) :
    (handler Try.prog ppol (n + 1)).call (.func 33) [.ptr id 0, .sl own 1 (l.map intRow)] S = some (.ret .undef, S.put id (.cells [.sl true 1 ((bs ++ l.flatMap numB).map byteRow)])) := by
  rw [call_func (by rfl), numbers_run own bs l hl hb hn hS]; rfl
theorem numbers_call1 {n id : Nat} (own : Bool) (bs : List UInt8) (a : Nat) (ha : a < 2 ^ 20) (hb : bs.length < 2 ^ 38) (hn : 2 ^ 20 < n) (hS : S.get id = some (.cells [.sl true 1 (bs.map byteRow)])) :
    (handler Try.prog ppol (n + 1)).call (.func 33) [.ptr id 0, .sl own 1 [[.int .i64 a]]] S = some (.ret .undef, S.put id (.cells [.sl true 1 ((bs ++ numB a).map byteRow)])) := by
  have := numbers_call (n := n) own bs [a] (by simpa using ha) (by simp; omega) hn hS
  simpa [intRow] using this
theorem numbers_call2 {n id : Nat} (own : Bool) (bs : List UInt8) (a b : Nat) (ha : a < 2 ^ 20) (hb' : b < 2 ^ 20) (hb : bs.length < 2 ^ 38) (hn : 2 ^ 20 < n) (hS : S.get id = some (.cells [.sl true 1 (bs.map byteRow)])) :
    (handler Try.prog ppol (n + 1)).call (.func 33) [.ptr id 0, .sl own 1 [[.int .i64 a], [.int .i64 b]]] S = some (.ret .undef, S.put id (.cells [.sl true 1 ((bs ++ (numB a ++ numB b)).map byteRow)])) := by
  have := numbers_call (n := n) own bs [a, b] (by simp; omega) (by simp; omega) hn hS
  simpa [intRow] using this
theorem build71 (o : Bool) (rows : List (List AV)) : buildA Try.prog 71 [(0, .sl o 1 rows)] = some (.agg [.sl o 1 rows]) := by kernel_rfl
theorem build73 (o : Bool) (rows : List (List AV)) : buildA Try.prog 73 [(0, .agg [.sl o 1 rows])] = some (.agg [.sl o 1 rows]) := by kernel_rfl
theorem build79 (o : Bool) (rows : List (List AV)) : buildA Try.prog 79 [(0, .agg [.sl o 1 rows])] = some (.agg [.sl o 1 rows]) := by kernel_rfl
theorem conv28 (rows : List (List AV)) (r : List AV) : convA Try.prog 28 28 (.sl true 1 (r :: rows)) = some (.sl true 1 (r :: rows)) := by simp [convA]

/-! ### Parts that lie one behind the other -/
def plen (p : PartV) : Nat := (ol p.bytes).length
def atN (p : PartV) : Nat := p.at'.toNat
def endN (p : PartV) : Nat := atN p + plen p
def lastN (x : Nat) (l : List PartV) : Nat := l.foldl (fun _ p => endN p) x
theorem lastN_snoc (x : Nat) (l : List PartV) (p : PartV) : lastN x (l ++ [p]) = endN p := by simp [lastN]
structure PartOk (x : Nat) (p : PartV) : Prop where
  at' : p.at' = (atN p : Int)
  ge : x ≤ atN p
  le : endN p ≤ 2048
  pos : 0 < plen p
theorem badP_no {x : Nat} {p : PartV} (h : badP (x : Int) p = false) : PartOk x p ∧ endI p = (endN p : Int) := by
  unfold badP at h
  simp only [Bool.or_eq_false_iff, decide_eq_false_iff_not] at h
  obtain ⟨⟨⟨⟨h1, h2⟩, h3⟩, h4⟩, h5⟩ := h
  have ha : p.at' = (atN p : Int) := by unfold atN; omega
  have he : endI p = (endN p : Int) := by
    unfold endI endN plen
    rw [ha, ← Int.natCast_add]
    exact Go.IntWalk.i64_in _ (by have : (atN p : Int) < 2048 := by omega
                                  omega)
  refine ⟨⟨ha, by omega, ?_, by unfold plen; omega⟩, he⟩
  rw [he] at h5; omega
theorem pBad_at : ∀ {l : List PartV} {x : Nat}, pBad (x : Int) l = false → ∀ {k : Nat} {p : PartV}, l[k]? = some p → PartOk (lastN x (l.take k)) p
  | [], _, _, k, p, hp => by simp at hp
  | q :: l, x, h, k, p, hp => by
    simp only [pBad, Bool.or_eq_false_iff] at h
    obtain ⟨h1, h2⟩ := badP_no h.1
    cases k with
    | zero =>
      simp only [List.getElem?_cons_zero, Option.some.injEq] at hp
      subst hp
      exact h1
    | succ k =>
      rw [h2] at h
      have := pBad_at h.2 (k := k) (p := p) (by simpa using hp)
      simpa [lastN] using this
/-- A part's bytes. -/
def partB (x : Nat) (p : PartV) : List UInt8 := numB (atN p - x) ++ numB (plen p) ++ ol p.bytes
def partsB : Nat → List PartV → List UInt8
  | _, [] => []
  | x, p :: l => partB x p ++ partsB (endN p) l
theorem partsB_snoc : ∀ (x : Nat) (l : List PartV) (p : PartV), partsB x (l ++ [p]) = partsB x l ++ partB (lastN x l) p
  | x, [], p => by simp [partsB, lastN]
  | x, q :: l, p => by
    have := partsB_snoc (endN q) l p
    simp only [List.cons_append, partsB, this, List.append_assoc]
    rfl
theorem take_snoc {X : Type} {l : List X} {k : Nat} {p : X} (h : l[k]? = some p) : l.take (k + 1) = l.take k ++ [p] := by
  have hlt := (List.getElem?_eq_some_iff.1 h).1
  have : l[k] = p := (List.getElem?_eq_some_iff.1 h).2
  rw [List.take_succ_eq_append_getElem hlt, this]
def symB (s : SymV) : List UInt8 := UInt8.ofNat s.name.length :: s.name ++ numB s.at'.toNat
def markB : List UInt8 := [80, 77, 73, 77]
def headB (f : FileV) : List UInt8 := markB ++ numB (ol f.parts).length ++ partsB 0 (ol f.parts)
def bodyB (f : FileV) : List UInt8 := headB f ++ numB (ol f.names).length ++ (ol f.names).flatMap symB
def byteAt (x : Int) : UInt8 := UInt8.ofNat (IntKind.u8.wrap x).toNat
def sumB (bs : List UInt8) : List UInt8 := [byteAt (sumOf bs), byteAt ((sumOf bs).fdiv (2 ^ 8)), byteAt ((sumOf bs).fdiv (2 ^ 16)), byteAt ((sumOf bs).fdiv (2 ^ 24))]
theorem wrap_u8_range (x : Int) : 0 ≤ IntKind.u8.wrap x ∧ IntKind.u8.wrap x < 256 := by
  have e : IntKind.u8.wrap x = x % 256 := by simp [IntKind.wrap, IntKind.bits, IntKind.signed]
  rw [e]; omega
theorem byteAt_row (x : Int) : byteRow (byteAt x) = [.int .u8 (IntKind.u8.wrap x)] := by
  have h := wrap_u8_range x
  unfold byteAt
  rw [byteRow_of _ (by omega)]
  rw [Int.toNat_of_nonneg h.1]
theorem sumB_rows (bs : List UInt8) : ((sumBytes bs).map fun v => [v]) = (sumB bs).map byteRow := by
  simp only [sumBytes, sumB, List.map_cons, List.map_nil, byteAt_row]
def rawB (f : FileV) : List UInt8 := bodyB f ++ sumB (bodyB f)
/-! ### How long they are -/
theorem numB_len (n : Nat) : (numB n).length ≤ n + 1 := by
  have := hiB_len n
  simp [numB]; omega
end Go.Ab.Seat
/- Raw. -/
namespace Go.Ab.Seat
open Go.Proofs
set_option maxRecDepth 100000
set_option maxHeartbeats 2000000
variable {H : Handler} {N : Nat} {S : Sto}
theorem partB_len {x : Nat} {p : PartV} (h : PartOk x p) : (partB x p).length ≤ 6200 := by
  have h1 := numB_len (atN p - x)
  have h2 := numB_len (plen p)
  have h3 := h.le
  have h4 : (ol p.bytes).length = plen p := rfl
  simp only [partB, List.length_append]
  unfold endN at h3
  omega
theorem partsB_len {l : List PartV} (h : pBad 0 l = false) : ∀ k, (partsB 0 (l.take k)).length ≤ k * 6200
  | 0 => by simp [partsB]
  | k + 1 => by
    have ih := partsB_len h k
    by_cases hk : k < l.length
    · obtain ⟨p, hp⟩ : ∃ p, l[k]? = some p := ⟨_, List.getElem?_eq_getElem hk⟩
      have := partB_len (pBad_at (x := 0) h hp)
      rw [take_snoc hp, partsB_snoc, List.length_append]
      omega
    · rw [List.take_of_length_le (by omega)] at ih ⊢
      omega
structure SymOk (s : SymV) : Prop where
  name : nameOk s.name = true
  at' : s.at' = (s.at'.toNat : Int)
  le : s.at'.toNat ≤ 2048
theorem nameOk_len {s : List UInt8} (h : nameOk s = true) : s.length ≤ 16 := by
  unfold nameOk nameA at h
  cases s with
  | nil => simp
  | cons c r =>
    simp only [Bool.and_eq_true, decide_eq_true_eq] at h
    simp only [List.length_cons]
    omega
theorem namesOk_at {l : List SymV} (h : namesOk l = true) {k : Nat} {s : SymV} (hs : l[k]? = some s) : SymOk s := by
  unfold namesOk at h
  rw [List.all_eq_true] at h
  have := h k (List.mem_range.2 (List.getElem?_eq_some_iff.1 hs).1)
  unfold nmAt at this
  rw [hs] at this
  simp only [Bool.and_eq_true, decide_eq_true_eq] at this
  obtain ⟨⟨⟨h1, h2⟩, h3⟩, -⟩ := this
  exact ⟨h1, by omega, by omega⟩
theorem symB_len {s : SymV} (h : SymOk s) : (symB s).length ≤ 2100 := by
  have h1 := numB_len s.at'.toNat
  have h2 := nameOk_len h.name
  have h3 := h.le
  simp only [symB, List.length_append, List.length_cons]
  omega
theorem symsB_len {l : List SymV} (h : namesOk l = true) : ∀ k, ((l.take k).flatMap symB).length ≤ k * 2100
  | 0 => by simp
  | k + 1 => by
    have ih := symsB_len h k
    by_cases hk : k < l.length
    · obtain ⟨p, hp⟩ : ∃ p, l[k]? = some p := ⟨_, List.getElem?_eq_getElem hk⟩
      have := symB_len (namesOk_at h hp)
      rw [take_snoc hp, List.flatMap_append, List.length_append]
      simp only [List.flatMap_cons, List.flatMap_nil, List.append_nil]
      omega
    · rw [List.take_of_length_le (by omega)] at ih ⊢
      omega
theorem clear_call {n a : Nat} {x : AV} (hS : S.get a = some (.cells [x])) : (handler Try.prog ppol (n + 1)).call (.func 31) [.ptr a 0] S = some (.ret .undef, S.put a (.cells [.nilsl])) := by
  rw [call_func (by rfl), runFn_eq Try.func31 (by rfl)]
  simp [Try.f31, hS, writeCells]
/-- What Raw's loop over the parts has laid. -/
structure RawInv (f : FileV) (S5 : Sto) (w l y : Nat) (r : ALoop) (k : Nat) (S1 : Sto) : Prop where
  g : Grew [w, l, y] S5 S1
  w : S1.get w = some (.cells [.sl true 1 ((markB ++ numB (ol f.parts).length ++ partsB 0 ((ol f.parts).take k)).map byteRow)])
  l : S1.get l = some (.cells [.int .i64 (lastN 0 ((ol f.parts).take k))])
  y : S1.get y = some (.loop r)
theorem raw_bad {n : Nat} (f : FileV) (h : Small f n) (hok : rightOk f = false) :
    ∃ S', runFn Try.prog (handler Try.prog ppol (n + 10)) N ppol 10 .none [.agg (fileC f)] S = some (.ret (.tup [.nilsl, .int .i64 310]), .none, S') ∧ Grew [] S S' := by
  obtain ⟨S1, c1, hg1⟩ := right_call (n := n + 4) (S := (S.new (.cells [.nilsl])).new (.cells [.int .i64 0])) f (h.up (by omega))
  rw [hok] at c1
  have hg0 : Grew [] S ((S.new (.cells [.nilsl])).new (.cells [.int .i64 0])) := (Grew.new _ _ _ (by simp)).trans (Grew.new _ _ _ (by simp))
  have ha : S1.get S.next = some (.cells [.nilsl]) := (hg1.get S.next (by simp only [next_new]; omega) (by simp)).trans (by simp)
  have he : S1.get (S.next + 1) = some (.cells [.int .i64 0]) := (hg1.get (S.next + 1) (by simp only [next_new]; omega) (by simp)).trans (by simp)
  have he' : (S1.put S.next (.cells [.nilsl])).get (S.next + 1) = some (.cells [.int .i64 0]) := by rw [get_put_ne (by omega)]; exact he
  have hp := caught_pan (n := n + 9) (S := S1) 31 [.ptr S.next 0] 310 (clear_call (n := n + 8) ha) he'
  have ha' : ((S1.put S.next (.cells [.nilsl])).put (S.next + 1) (.cells [.int .i64 310])).get S.next = some (.cells [.nilsl]) := by
    rw [get_put_ne (by omega)]; exact get_put_self ha
  have he2 := get_put_self (o := .cells [.int .i64 310]) he'
  rw [runFn_eq Try.func10 (by rfl)]
  have hg3 : Grew [S.next, S.next + 1] S1 ((S1.put S.next (.cells [.nilsl])).put (S.next + 1) (.cells [.int .i64 310])) := (Grew.put _ _ (.inl (by simp)) (by simp)).trans (Grew.put _ _ (.inl (by simp)) (by simp))
  refine ⟨_, ?_, (hg0.trans hg1).behind hg3 (by simp)⟩
  simp [Try.f10, c1, errPan, hp, ha', he2, takeCells_eq, isAggV, put_self ha', put_self he2]
end Go.Ab.Seat
/- Raw of a file that may be. -/
namespace Go.Ab.Seat
open Go.Proofs
set_option maxRecDepth 100000
set_option maxHeartbeats 2000000
variable {H : Handler} {N : Nat} {S : Sto}
theorem markRows : [[AV.int .u8 80], [.int .u8 77], [.int .u8 73], [.int .u8 77]] = markB.map byteRow := (rfl)
theorem okParts_ok {f : FileV} (h : rightOk f = true) : okParts f = f.parts := by unfold okParts; rw [h]; rfl
theorem rightOk_names {f : FileV} (h : rightOk f = true) : namesOk (ol f.names) = true := by
  unfold rightOk at h
  simp only [Bool.and_eq_true] at h
  exact h.2
theorem rightOk_sizes {f : FileV} (h : rightOk f = true) : (ol f.parts).length ≤ 64 ∧ (ol f.names).length ≤ 64 := by
  unfold rightOk sizesOk at h
  simp only [Bool.and_eq_true, decide_eq_true_eq] at h
  exact h.1.1
theorem raw_good {n : Nat} (f : FileV) (h : Small f n) (hn : 2 ^ 20 < n) (hk : SOK S) (hok : rightOk f = true) :
    ∃ S', runFn Try.prog (handler Try.prog ppol (n + 10)) (n + 10) ppol 10 .none [.agg (fileC f)] S = some (.ret (.tup [.sl true 1 ((rawB f).map byteRow), .int .i64 0]), .none, S') ∧ Grew [] S S' := by
  obtain ⟨hsz1, hsz2⟩ := rightOk_sizes hok
  have hpb := rightOk_parts hok
  have hnm := rightOk_names hok
  obtain ⟨S1, c1, hg1⟩ := right_call (n := n + 4) (S := (S.new (.cells [.nilsl])).new (.cells [.int .i64 0])) f (h.up (by omega))
  rw [hok] at c1
  have hg0 : Grew [] S ((S.new (.cells [.nilsl])).new (.cells [.int .i64 0])) := (Grew.new _ _ _ (by simp)).trans (Grew.new _ _ _ (by simp))
  have hn1 : S.next + 1 + 1 ≤ S1.next := hg1.next
  have ha1 : S1.get S.next = some (.cells [.nilsl]) := (hg1.get S.next (by simp only [next_new]; omega) (by simp)).trans (by simp)
  have he1 : S1.get (S.next + 1) = some (.cells [.int .i64 0]) := (hg1.get (S.next + 1) (by simp only [next_new]; omega) (by simp)).trans (by simp)
  have hg01 := hg0.trans hg1
  clear hg0 hg1
  generalize haid : S.next = a at *
  generalize hw : S1.next = w at *
  -- the writer
  obtain ⟨S2, hS2⟩ : ∃ S2, (S1.new (.cells [.sl true 1 [[.int .u8 80], [.int .u8 77], [.int .u8 73], [.int .u8 77]]])).new (.cells [.ptr w 0]) = S2 := ⟨_, rfl⟩
  have hg12 : Grew [] S1 S2 := by
    rw [← hS2]
    exact (Grew.new _ _ _ (by rw [good_cells, markRows]; simp [same_sl _ _ goodBytes])).trans (Grew.new _ _ _ (by simp))
  have hn2 : S2.next = w + 2 := by rw [← hS2, ← hw]; rfl
  have hw2 : S2.get w = some (.cells [.sl true 1 (markB.map byteRow)]) := by rw [← hS2, ← hw, ← markRows]; simp
  have hq2 : S2.get (w + 1) = some (.cells [.ptr w 0]) := by rw [← hS2, ← hw]; simp
  have c2 := numbers_call1 (n := n + 9) true markB (ol f.parts).length (by omega) (by simp [markB]) (by omega) hw2
  generalize hB0 : markB ++ numB (ol f.parts).length = B0 at c2
  obtain ⟨S3, hS3⟩ : ∃ S3, (S2.put w (.cells [.sl true 1 (B0.map byteRow)])) = S3 := ⟨_, rfl⟩
  have hg13 : Grew [] S1 S3 := by
    rw [← hS3]
    exact hg12.behind (Grew.put (x := [w]) _ _ (.inl (by simp)) (by simp [same_sl _ _ goodBytes])) (by simp; omega)
  have hn3 : S3.next = w + 2 := by rw [← hS3]; exact hn2
  have hw3 : S3.get w = some (.cells [.sl true 1 (B0.map byteRow)]) := by rw [← hS3]; exact get_put_self hw2
  have hq3 : S3.get (w + 1) = some (.cells [.ptr w 0]) := by rw [← hS3, get_put_ne (by omega)]; exact hq2
  rw [hS3] at c2
  -- Parts
  have hg4 : Grew [] S3 (S3.new (.cells [.int .i64 0])) := Grew.new _ _ _ (by simp)
  have hl4 : (S3.new (.cells [.int .i64 0])).get (w + 2) = some (.cells [.int .i64 0]) := by rw [← hn3]; exact get_new_self _ _
  obtain ⟨v, S5, c3, hg5, hc5, hlt5, hv5⟩ := parts_call (n := n + 2) (S := S3.new (.cells [.int .i64 0])) f (h.up (by omega)) (hg4.sok (hg13.sok (hg01.sok hk)))
  simp only [next_new, hn3] at c3 hc5 hlt5 hv5
  have hw5 : S5.get w = some (.cells [.sl true 1 (B0.map byteRow)]) := ((hg4.trans hg5).get w (by omega) (by simp)).trans hw3
  have hq5 : S5.get (w + 1) = some (.cells [.ptr w 0]) := ((hg4.trans hg5).get (w + 1) (by omega) (by simp)).trans hq3
  have hl5 : S5.get (w + 2) = some (.cells [.int .i64 0]) := (hg5.get (w + 2) (by simp only [next_new]; omega) (by simp)).trans hl4
  have hg15 : Grew [] S1 S5 := hg13.trans (hg4.trans hg5)
  rw [okParts_ok hok] at hv5
  rw [runFn_eq Try.func10 (by rfl)]
  simp [Try.f10, writeCells, buildSliceA, fillRows, conv28, build71, build73, c1, haid, hw, hS2, hq2, c2, hn3, c3]
  generalize hr : loopOf _ _ _ _ _ _ _ = r
  have hra := congrArg ALoop.assign hr
  have hrb := congrArg ALoop.body hr
  have hre := congrArg ALoop.env hr
  have hrf := congrArg ALoop.fn hr
  have hrp := congrArg ALoop.params hr
  have hrs := congrArg ALoop.state hr
  have hrn := congrArg ALoop.pending hr
  simp [loopOf] at hra hrb hre hrf hrp hrs hrn
  clear hr
  obtain ⟨y, hyid⟩ : ∃ y, S5.next + 1 = y := ⟨_, rfl⟩
  obtain ⟨S6, hS6⟩ : ∃ S6, (S5.new .deferred).new (.loop r) = S6 := ⟨_, rfl⟩
  have hg56 : Grew [] S5 S6 := by rw [← hS6]; exact (Grew.new _ _ _ rfl).trans (Grew.new _ _ _ rfl)
  have hn6 : S6.next = S5.next + 2 := by rw [← hS6]; rfl
  have hy6 : S6.get y = some (.loop r) := by rw [← hS6, ← hyid]; simp
  have hd6 : S6.get S5.next = some .deferred := by rw [← hS6]; simp
  have hw6 : S6.get w = some (.cells [.sl true 1 (B0.map byteRow)]) := (hg56.get w (by omega) (by simp)).trans hw5
  have hq6 : S6.get (w + 1) = some (.cells [.ptr w 0]) := (hg56.get (w + 1) (by omega) (by simp)).trans hq5
  have hl6 : S6.get (w + 2) = some (.cells [.int .i64 0]) := (hg56.get (w + 2) (by omega) (by simp)).trans hl5
  have hc6 : S6.get (w + 2 + 1) = some (.cells [v]) := (hg56.get (w + 2 + 1) (by omega) (by simp)).trans hc5
  have hk6 : SOK S6 := hg56.sok (hg15.sok (hg01.sok hk))
  obtain ⟨S7, e4, hI7⟩ := partsGo_run (n := n + 8) (N := n + 9) (S := S6) (y := y) (RawInv f S6 w (w + 2) y r) (fun _ => False) hc6 (by omega) (by omega) (fun p hp => by have := pBad_each hpb p hp; omega)
    ⟨Grew.refl _ _, by simp only [List.take_zero, partsB, List.append_nil, hB0]; exact hw6, by simpa [lastN] using hl6, hy6⟩
    (fun k S' hI => ⟨hI.g.sok hk6, hv5.mono ((hg56.mono' (by simp)).trans hI.g) (fun b hb => by simp only [List.mem_cons, List.not_mem_nil, or_false] at hb; omega)⟩)
    (fun k p S' hI hp => by
      have hpo := pBad_at (x := 0) hpb hp
      obtain ⟨bs, hbs⟩ : ∃ bs, p.bytes = some bs := by
        cases hb : p.bytes with
        | none => have := hpo.pos; simp [plen, hb, ol] at this
        | some bs => exact ⟨bs, rfl⟩
      have hkl := (List.getElem?_eq_some_iff.1 hp).1
      have hpl : plen p = bs.length := by simp [plen, hbs, ol]
      have hle := hpo.le
      unfold endN at hle
      have hlen := partsB_len hpb k
      have hmk : markB.length = 4 := rfl
      have hnb := numB_len (ol f.parts).length
      have hB1 : (B0 ++ partsB 0 ((ol f.parts).take k)).length < 2 ^ 38 := by
        rw [← hB0]; simp only [List.length_append]; omega
      have hwk := hI.w
      rw [hB0] at hwk
      generalize hBk : B0 ++ partsB 0 ((ol f.parts).take k) = Bk at hwk hB1
      generalize hlk : lastN 0 ((ol f.parts).take k) = lk at *
      have hlI := hI.l
      rw [hlk] at hlI
      obtain ⟨Sb, hSb⟩ : ∃ Sb, S'.put y (.loop { r with state := .busy }) = Sb := ⟨_, rfl⟩
      have hwb : Sb.get w = some (.cells [.sl true 1 (Bk.map byteRow)]) := by rw [← hSb, get_put_ne (by omega)]; exact hwk
      have hlb : Sb.get (w + 2) = some (.cells [.int .i64 lk]) := by rw [← hSb, get_put_ne (by omega)]; exact hlI
      have hqb : Sb.get (w + 1) = some (.cells [.ptr w 0]) := by rw [← hSb, get_put_ne (by omega), hI.g.get (w + 1) (by omega) (by simp; omega)]; exact hq6
      have hyb : Sb.get y = some (.loop { r with state := .busy }) := by rw [← hSb]; exact get_put_self hI.y
      have d1 := numbers_call2 (n := n + 7) true Bk (atN p - lk) (plen p) (by omega) (by omega) hB1 (by omega) hwb
      rw [hpl] at d1
      have hat := hpo.at'
      have hge := hpo.ge
      have hsub : IntKind.i64.wrap ((atN p : Int) - (lk : Int)) = ((atN p - lk : Nat) : Int) := by
        rw [show (atN p : Int) - (lk : Int) = ((atN p - lk : Nat) : Int) by omega]; exact Go.IntWalk.i64_in _ (by omega)
      have hadd : IntKind.i64.wrap ((atN p : Int) + (bs.length : Int)) = (atN p : Int) + (bs.length : Int) := Go.IntWalk.i64_in _ (by omega)
      have hrr : ({ state := .ready, pending := none, fn := r.fn, env := r.env, params := r.params, assign := r.assign, body := r.body, defers := r.defers } : ALoop) = r := by
        obtain ⟨x1, x2, x3, x4, x5, x6, x7, x8⟩ := r
        simp only at hrs hrn
        subst hrs hrn
        rfl
      refine ⟨true, ((Sb.put w (.cells [.sl true 1 ((Bk ++ partB lk p).map byteRow)])).put (w + 2) (.cells [.int .i64 (endN p)])).put y (.loop r), ?_, fun _ => ?_, fun hf => absurd hf (by simp)⟩
      · rw [call_yield, yield_eq hI.y (by rw [← hrp]; rfl) (by rw [← hrf]; rfl)]
        rw [← hra, ← hre, ← hrf, ← hrp]
        simp [hbs, sv_some]
        rw [yBody_normal hI.y hrs.symm, hSb, ← hrb, ← hrf]
        simp [hqb, hlb, hat, hsub, lenA, buildSliceA, fillRows, d1]
        have hlq : (Bk ++ (numB (atN p - lk) ++ numB bs.length)).length < 2 ^ 39 := by
          have q1 := numB_len (atN p - lk)
          have q2 := numB_len bs.length
          simp only [List.length_append]; omega
        have happ := fun st => app_sl (st := st) (o := false) (rows := (Bk ++ (numB (atN p - lk) ++ numB bs.length)).map byteRow) (more := bs.map byteRow) (by simpa using hlq) (by simp; omega)
        simp only [List.map_append] at happ
        have hne1 : y ≠ w := by omega
        have hne2 : y ≠ w + 2 := by omega
        rw [evDraw_go]
        · simp [hqb, hlb, get_put_self hwb, get_put_ne, takeCells_eq, isAggV, happ, writeCells, lenA, hadd]
          rw [yFin_normal (r := { r with state := .busy }) (by simp [get_put_ne, hne1, hne2, hyb])]
          simp [hrr, partB, hpl, hbs, ol, endN]
        · kernel_rfl
      · have hwS : (Sb.put w (.cells [.sl true 1 ((Bk ++ partB lk p).map byteRow)])).get w = some (.cells [.sl true 1 ((Bk ++ partB lk p).map byteRow)]) := get_put_self hwb
        have hne1 : w ≠ y := by omega
        have hne2 : w + 2 ≠ y := by omega
        have gb : Grew [w, w + 2, y] S' Sb := by rw [← hSb]; exact Grew.put _ _ (.inl (by simp)) rfl
        refine ⟨((hI.g.trans gb).trans (Grew.put _ _ (.inl (by simp)) (by simp [same_sl _ _ goodBytes, -List.map_append]))).trans ((Grew.put _ _ (.inl (by simp)) (by simp)).trans (Grew.put _ _ (.inl (by simp)) rfl)), ?_, ?_, ?_⟩
        · rw [get_put_ne hne1, get_put_ne (by omega), hwS, take_snoc hp, partsB_snoc, hlk, ← hBk, ← hB0]
          simp only [List.append_assoc]
        · rw [get_put_ne hne2, get_put_self (o' := .cells [.int .i64 lk]) (by rw [get_put_ne (by omega)]; exact hlb), take_snoc hp, lastN_snoc]
        · exact get_put_self (o' := .loop { r with state := .busy }) (by rw [get_put_ne (by omega), get_put_ne (by omega)]; exact hyb))
  obtain hI7 | hI7 := hI7
  rotate_left
  · exact hI7.elim
  have hcall : (handler Try.prog ppol (n + 10)).call (.func 53) [.yld y, .ptr (w + 2 + 1) 0] S6 = some (.ret .undef, S7) := by
    rw [call_func (by rfl), e4]; rfl
  have hrg := fun st defs => rgEnd_ret (st := st) (defs := defs) (v := .undef) hI7.y hrs.symm hrn.symm
  have hw7 := hI7.w
  rw [List.take_of_length_le (Nat.le_refl _), show markB ++ numB (ol f.parts).length ++ partsB 0 (ol f.parts) = headB f from rfl] at hw7
  obtain ⟨S8, hS8⟩ : ∃ S8, S7.drop y = S8 := ⟨_, rfl⟩
  have hg68 : Grew [w, w + 2, y] S6 S8 := by rw [← hS8]; exact hI7.g.trans (Grew.drop _ (.inl (by simp)))
  have hw8 : S8.get w = some (.cells [.sl true 1 ((headB f).map byteRow)]) := by rw [← hS8, get_drop_ne (by omega)]; exact hw7
  have hq8 : S8.get (w + 1) = some (.cells [.ptr w 0]) := (hg68.get (w + 1) (by omega) (by simp; omega)).trans hq6
  have hd8 : S8.get S5.next = some .deferred := (hg68.get S5.next (by omega) (by simp; omega)).trans hd6
  have hg18 : Grew [] S1 S8 := (hg15.trans hg56).behind hg68 (by simp; omega)
  have ha8 : S8.get a = some (.cells [.nilsl]) := (hg18.get a (by omega) (by simp)).trans ha1
  have he8 : S8.get (a + 1) = some (.cells [.int .i64 0]) := (hg18.get (a + 1) (by omega) (by simp)).trans he1
  have hhead : (headB f).length ≤ 69 + 64 * 6200 := by
    have q1 := partsB_len hpb (ol f.parts).length
    rw [List.take_of_length_le (Nat.le_refl _)] at q1
    have q2 := numB_len (ol f.parts).length
    have q3 : markB.length = 4 := rfl
    simp only [headB, List.length_append]; omega
  have c5 := numbers_call1 (n := n + 9) true (headB f) (ol f.names).length (by omega) (by omega) (by omega) hw8
  generalize hB1 : headB f ++ numB (ol f.names).length = B1 at c5
  have hB1l : B1.length ≤ 140 + 64 * 6200 := by
    have q2 := numB_len (ol f.names).length
    rw [← hB1, List.length_append]; omega
  simp [hyid, hS6, hcall, hrg, hS8, hq8, c5, buildSliceA, fillRows]
  rw [loop_go (fun k => { env := envOf 100 [(2, .ptr a 0), (3, .ptr (a + 1) 0), (4, .ptr (w + 1) 0), (5, .ptr (w + 2) 0), (58, sv false 2 symRow f.names), (59, .int .i64 (ol f.names).length), (60, .int .i64 k)], defs := [⟨.coll S5.next, []⟩, ⟨.fn (.func 30) [], [.ptr (a + 1) 0, .fn (.func 31) [] [.ptr a 0]]⟩], par := .none, S := S8.put w (.cells [.sl true 1 ((B1 ++ ((ol f.names).take k).flatMap symB).map byteRow)]) }) (ol f.names).length (by omega)]
  · rw [List.take_of_length_le (Nat.le_refl _)]
    have hbody : B1 ++ (ol f.names).flatMap symB = bodyB f := by rw [← hB1]; rfl
    have hlen := symsB_len hnm (ol f.names).length
    rw [List.take_of_length_le (Nat.le_refl _)] at hlen
    have hbl : (bodyB f).length < 2 ^ 20 := by rw [← hbody]; simp only [List.length_append]; omega
    rw [hbody]
    have hsum := fun own => sum_call (n := n + 9) (S := S8.put w (.cells [.sl false 1 ((bodyB f).map byteRow)])) own (bodyB f) (by omega) (by omega)
    have happ := fun st o => app_sl (st := st) (o := o) (rows := (bodyB f).map byteRow) (more := (sumB (bodyB f)).map byteRow) (by simp; omega) (by simp [sumB])
    have hraw : (bodyB f).map byteRow ++ (sumB (bodyB f)).map byteRow = (rawB f).map byteRow := by simp [rawB]
    rw [hraw] at happ
    rw [sumB_rows] at hsum
    simp [-List.map_append]
    rw [evDraw_go]
    · have n1 : a ≠ w := by omega
      have n2 : a + 1 ≠ w := by omega
      have n3 : S5.next ≠ a := by omega
      have n4 : S5.next ≠ a + 1 := by omega
      have n5 : S5.next ≠ w := by omega
      have n6 : a ≠ S5.next := by omega
      have n7 : a + 1 ≠ S5.next := by omega
      have ga : ∀ X Y, ((S8.put w X).put a Y).get a = some Y := fun X Y => get_put_self (by rw [get_put_ne n1]; exact ha8)
      have ge : ∀ X Y Z, (((S8.put w X).put a Y).put (a + 1) Z).get (a + 1) = some Z := fun X Y Z => get_put_self (by rw [get_put_ne (by omega), get_put_ne n2]; exact he8)
      have hq := fun S' => caught_ret (n := n + 9) (S := S') _ (a + 1) 31 [] [.ptr a 0] rfl
      simp [hq8, get_put_ne, get_put_self hw8, get_drop_ne, ha8, he8, hd8, n1, n2, n3, n4, n5, n6, n7, ga, ge, hq, takeCells_eq, isAggV, writeCells, hsum, happ, -List.map_append]
      have gb : ∀ l : List UInt8, goodO (.cells [.sl true 1 (l.map byteRow)]) = true ∧ goodO (.cells [.sl false 1 (l.map byteRow)]) = true := fun l => by simp [same_sl _ _ goodBytes]
      have x1 : Grew [w, a, a + 1, S5.next] S8 (S8.put w (.cells [.sl false 1 ((bodyB f).map byteRow)])) := Grew.put _ _ (.inl (by simp)) (gb _).2
      have x2 := x1.trans (Grew.put _ (id := a) (.cells [.sl true 1 ((rawB f).map byteRow)]) (.inl (by simp)) (gb _).1)
      have x3 := x2.trans (Grew.put _ (id := a + 1) (.cells [.int .i64 0]) (.inl (by simp)) (by simp))
      have x4 := x3.trans (Grew.drop _ (id := S5.next) (.inl (by simp)))
      have x5 := x4.trans (Grew.put _ (id := a) (.cells [.sl false 1 ((rawB f).map byteRow)]) (.inl (by simp)) (gb _).2)
      have x6 := x5.trans (Grew.put _ (id := a + 1) (.cells [.int .i64 0]) (.inl (by simp)) (by simp))
      exact (hg01.trans hg18).behind x6 (by simp; omega)
    · kernel_rfl
  · simp
  · intro k hkl
    obtain ⟨s, hs⟩ : ∃ s, (ol f.names)[k]? = some s := ⟨_, List.getElem?_eq_getElem hkl⟩
    have hso := namesOk_at hnm hs
    have hsl := nameOk_len hso.name
    have hle := hso.le
    have hlen := symsB_len hnm k
    have hBk : (B1 ++ ((ol f.names).take k).flatMap symB).length < 2 ^ 30 := by simp only [List.length_append]; omega
    generalize hBB : B1 ++ ((ol f.names).take k).flatMap symB = Bk at hBk
    have hwk : (S8.put w (.cells [.sl true 1 (Bk.map byteRow)])).get w = some (.cells [.sl true 1 (Bk.map byteRow)]) := get_put_self hw8
    have g7 : IntKind.i64.wrap ((k : Int) + 1) = (k : Int) + 1 := wrap_succ hkl (by omega)
    have g8 : IntKind.u8.wrap (s.name.length : Int) = s.name.length := Go.IntWalk.u8_in _ (by omega)
    have g9 := byteRow_of s.name.length (by omega)
    have happ1 := fun st => app_one (st := st) (o := false) (rows := Bk.map byteRow) (r := [.int .u8 s.name.length]) (by simp; omega)
    have happ2 := fun st => app_str (st := st) (s := s.name) (rows := Bk.map byteRow ++ [[.int .u8 s.name.length]]) (by simp; omega) (by omega)
    generalize hB2 : Bk ++ UInt8.ofNat s.name.length :: s.name = B2
    have hB2r : Bk.map byteRow ++ [[.int .u8 s.name.length]] ++ s.name.map byteRow = B2.map byteRow := by
      rw [← hB2, ← g9]; simp
    rw [hB2r] at happ2
    have c6 := numbers_call1 (n := n + 9) (id := w) (S := S8.put w (.cells [.sl true 1 (B2.map byteRow)])) true B2 s.at'.toNat (by omega) (by rw [← hB2]; simp; omega) (by omega) (get_put_self hw8)
    rw [← hso.at'] at c6
    simp [hkl, index_sv Try.underlying23 tycells64 _ hs, writeCells, -List.map_append]
    rw [evDraw_go]
    · simp [hq8, get_put_ne, get_put_self hw8, takeCells_eq, isAggV, writeCells, lenA, buildSliceA, fillRows, happ1, happ2, convA, g8, c6, g7, -List.map_append, -List.append_assoc]
      have e : B2 ++ numB s.at'.toNat = B1 ++ ((ol f.names).take (k + 1)).flatMap symB := by
        rw [take_snoc hs, List.flatMap_append, ← hB2, ← hBB]
        simp [symB]
      rw [e]
    · kernel_rfl
/-- What Raw tells. -/
def rawV (f : FileV) : AV := if rightOk f then .tup [.sl true 1 ((rawB f).map byteRow), .int .i64 0] else .tup [.nilsl, .int .i64 310]
theorem raw_call {n : Nat} (f : FileV) (h : Small f n) (hn : 2 ^ 20 < n) (hk : SOK S) :
    ∃ S', (handler Try.prog ppol (n + 11)).call (.func 10) [.agg (fileC f)] S = some (.ret (rawV f), S') ∧ Grew [] S S' := by
  unfold rawV
  cases hok : rightOk f
  · obtain ⟨S', e, hg⟩ := raw_bad (n := n) (N := n + 10) (S := S) f h hok
    exact ⟨S', by rw [call_func (by rfl), e]; rfl, hg⟩
  · obtain ⟨S', e, hg⟩ := raw_good (n := n) (S := S) f h hn hk hok
    exact ⟨S', by rw [call_func (by rfl), e]; rfl, hg⟩
end Go.Ab.Seat
/- What bytes are read as. -/
namespace Go.Ab.Seat
open Go.Proofs
set_option maxRecDepth 100000
set_option maxHeartbeats 2000000
variable {H : Handler} {N : Nat} {S : Sto}
theorem numGo_le : ∀ (i by' n : Nat) (bs : List UInt8) {k : Nat} {r : List UInt8}, numGo i by' n bs = some (k, r) → k ≤ 5000 ∧ r.length < bs.length
  | 0, _, _, _, _, _, h => by simp [numGo] at h
  | _ + 1, _, _, [], _, _, h => by simp [numGo] at h
  | i + 1, by', n, x :: l, k, r, h => by
    simp only [numGo] at h
    split at h
    · split at h
      · rename_i hc
        simp only [Option.some.injEq, Prod.mk.injEq] at h
        obtain ⟨rfl, rfl⟩ := h
        exact ⟨hc.2, by simp⟩
      · cases h
    · have := numGo_le i _ _ l h
      exact ⟨this.1, by simp; omega⟩
theorem numOf_le {bs : List UInt8} {k : Nat} {r : List UInt8} (h : numOf bs = some (k, r)) : k ≤ 5000 ∧ r.length < bs.length := numGo_le _ _ _ _ h
def readParts : Nat → Nat → List UInt8 → Option (List PartV × List UInt8)
  | 0, _, bs => some ([], bs)
  | c + 1, last, bs => match numOf bs with
    | none => none
    | some (d, b1) => match numOf b1 with
      | none => none
      | some (len, b2) => if len ≤ b2.length then (match readParts c (last + d + len) (b2.drop len) with
          | none => none
          | some (ps, r) => some (⟨((last + d : Nat) : Int), some (b2.take len)⟩ :: ps, r)) else none
def readNames : Nat → List UInt8 → Option (List SymV × List UInt8)
  | 0, bs => some ([], bs)
  | _ + 1, [] => none
  | c + 1, x :: b1 => if x.toNat ≤ b1.length then (match numOf (b1.drop x.toNat) with
    | none => none
    | some (d, b2) => match readNames c b2 with
      | none => none
      | some (ss, r) => some (⟨b1.take x.toNat, (d : Int)⟩ :: ss, r)) else none
def optL {X : Type} (l : List X) : Option (List X) := if l.isEmpty then none else some l
theorem ol_optL {X : Type} (l : List X) : ol (optL l) = l := by cases l <;> rfl
def readBody (bs : List UInt8) : Option FileV := match numOf bs with
  | none => none
  | some (c, b1) => match readParts c 0 b1 with
    | none => none
    | some (ps, b2) => match numOf b2 with
      | none => none
      | some (d, b3) => match readNames d b3 with
        | none => none
        | some (ss, b4) => if b4 = [] ∧ rightOk ⟨optL ps, optL ss⟩ = true then some ⟨optL ps, optL ss⟩ else none
def markOk (bs : List UInt8) : Bool := decide (8 ≤ bs.length) && bs.take 4 == markB
def sumOk (bs : List UInt8) : Bool := sumB (bs.take (bs.length - 4)) == bs.drop (bs.length - 4)
def readV (bs : List UInt8) : AV := if markOk bs && sumOk bs then (match readBody ((bs.take (bs.length - 4)).drop 4) with
    | some f => .tup [.agg (fileC f), .int .i64 0]
    | none => .tup [.agg [.nilsl, .nilsl], .int .i64 310]) else .tup [.agg [.nilsl, .nilsl], .int .i64 312]
theorem readNames_len : ∀ (c : Nat) (bs : List UInt8) {ss : List SymV} {r : List UInt8}, readNames c bs = some (ss, r) → ss.length = c ∧ ∀ s ∈ ss, s.name.length ≤ 255
  | 0, _, _, _, h => by
    simp only [readNames, Option.some.injEq, Prod.mk.injEq] at h
    obtain ⟨rfl, -⟩ := h
    simp
  | _ + 1, [], _, _, h => by simp [readNames] at h
  | c + 1, x :: b1, ss, r, h => by
    simp only [readNames] at h
    split at h
    · split at h
      · cases h
      · split at h
        · cases h
        · rename_i hr
          simp only [Option.some.injEq, Prod.mk.injEq] at h
          obtain ⟨rfl, rfl⟩ := h
          have ih := readNames_len c _ hr
          refine ⟨by simp [ih.1], fun s hs => ?_⟩
          rcases List.mem_cons.1 hs with rfl | hs
          · have := x.toNat_lt
            simp; omega
          · exact ih.2 s hs
    · cases h
theorem readParts_len : ∀ (c last : Nat) (bs : List UInt8) {ps : List PartV} {r : List UInt8}, readParts c last bs = some (ps, r) → ps.length = c ∧ r.length ≤ bs.length
  | 0, _, _, _, _, h => by
    simp only [readParts, Option.some.injEq, Prod.mk.injEq] at h
    obtain ⟨rfl, rfl⟩ := h
    simp
  | c + 1, last, bs, ps, r, h => by
    simp only [readParts] at h
    split at h
    · cases h
    · rename_i h1
      split at h
      · cases h
      · rename_i h2
        split at h
        · split at h
          · cases h
          · rename_i hr
            simp only [Option.some.injEq, Prod.mk.injEq] at h
            obtain ⟨rfl, rfl⟩ := h
            have ih := readParts_len c _ _ hr
            have l1 := (numOf_le h1).2
            have l2 := (numOf_le h2).2
            have l3 := ih.2
            rw [List.length_drop] at l3
            exact ⟨by simp [ih.1], by omega⟩
        · cases h
theorem equal_call {n : Nat} (o1 o2 : Bool) (a b : List UInt8) (hN : a.length < n) (ha : a.length < 2 ^ 62) (hb : b.length < 2 ^ 62) : (handler Try.prog ppol (n + 1)).call (.func 37) [.sl o1 1 (a.map byteRow), .sl o2 1 (b.map byteRow)] S = some (.ret (.bool (a == b)), S) := by
  have := equal_run (n := n) (N := n) (S := S) o1 o2 (some a) (some b) hN ha hb
  rw [call_func (by rfl)]
  simp only [sv_some] at this
  rw [this]; rfl
theorem app_accP {st : St} {o : Bool} {acc : List PartV} {p : PartV} (h : acc.length < 2 ^ 29) : appendS Try.prog 1 22 22 (sv true 2 partRow (optL acc)) (.sl o 2 [partRow p]) st = some (.val (sv true 2 partRow (optL (acc ++ [p]))) st) := by
  cases acc with
  | nil =>
    have hb := not_big45 1 (by omega)
    unfold appendS
    simp [optL, sv, moreA, rowsIn, rowsOf, appInline, hb]
  | cons q acc =>
    have := app_own (s := st) (xt := 22) (es := 2) (rows := (q :: acc).map partRow) (more := [partRow p]) (v := .sl o 2 [partRow p]) Try.underlying22 Try.underlying22 (by simp) tyzero45 rfl tycells45 rfl (by simp [rowsIn, rowsOf]) (not_big45 _ (by simp at h ⊢; omega))
    simpa [optL, sv] using this
theorem app_accS {st : St} {o : Bool} {acc : List SymV} {p : SymV} (h : acc.length < 2 ^ 29) : appendS Try.prog 1 23 23 (sv true 2 symRow (optL acc)) (.sl o 2 [symRow p]) st = some (.val (sv true 2 symRow (optL (acc ++ [p]))) st) := by
  cases acc with
  | nil =>
    have hb := not_big64 1 (by omega)
    unfold appendS
    simp [optL, sv, moreA, rowsIn, rowsOf, appInline, hb]
  | cons q acc =>
    have := app_own (s := st) (xt := 23) (es := 2) (rows := (q :: acc).map symRow) (more := [symRow p]) (v := .sl o 2 [symRow p]) Try.underlying23 Try.underlying23 (by simp) tyzero64 rfl tycells64 rfl (by simp [rowsIn, rowsOf]) (not_big64 _ (by simp at h ⊢; omega))
    simpa [optL, sv] using this
theorem build45 (x : Int) : buildA Try.prog 45 [(0, .int .i64 x)] = some (.agg [.int .i64 x, .nilsl]) := by kernel_rfl
theorem build64 (x : List UInt8) : buildA Try.prog 64 [(0, .str x)] = some (.agg [.str x, .int .i64 0]) := by kernel_rfl
theorem clearR_call {n a : Nat} {x y : AV} (hS : S.get a = some (.cells [x, y])) : (handler Try.prog ppol (n + 1)).call (.func 35) [.ptr a 0] S = some (.ret .undef, S.put a (.cells [.nilsl, .nilsl])) := by
  rw [call_func (by rfl), runFn_eq Try.func35 (by rfl)]
  have hb : buildA Try.prog 25 [] = some (.agg [.nilsl, .nilsl]) := by kernel_rfl
  simp [Try.f35, hS, writeCells, hb]
end Go.Ab.Seat
/- Read. -/
namespace Go.Ab
theorem mask_ptr {pol : Pol} {f : FuncId} {ops : Array Oper} {env : List AV} {t a : Nat} (h : getT env t = .ptr a 0) (hd : ops.toList.any (fun o => o.dst == some t) = false) : getT (maskD pol f ops env) t = .ptr a 0 := by
  rw [← getT_eq] at h ⊢
  unfold maskD
  rw [List.getD_eq_getElem?_getD, List.getElem?_mapIdx]
  rw [List.getD_eq_getElem?_getD] at h
  cases hx : env[t]? with
  | none => rw [hx] at h; simp [AV.undef] at h
  | some v =>
    rw [hx] at h
    simp only [Option.getD_some] at h
    subst h
    simp [hd]
end Go.Ab
namespace Go.Ab.Seat
open Go.Proofs
set_option maxRecDepth 100000
set_option maxHeartbeats 600000
variable {H : Handler} {N : Nat} {S : Sto}
theorem conv_str (o : Bool) (l : List UInt8) : convA Try.prog 28 9 (.sl o 1 (l.map byteRow)) = some (.str l) := by simp [convA]
def rdD (a e : Nat) : List ADef := [⟨.fn (.func 30) [], [.ptr e 0, .fn (.func 35) [] [.ptr a 0]]⟩]
theorem read_pan {n a e : Nat} {k : Int} {x y z : AV} {env : List AV} {S1 : Sto} (ha : S1.get a = some (.cells [x, y])) (he : S1.get e = some (.cells [z])) (hne : a ≠ e) (h2 : getT env 2 = .ptr a 0) (h3 : getT env 3 = .ptr e 0) :
    ∃ S', finK Try.prog (handler Try.prog ppol (n + 10)) ppol 12 [.cell 2 25, .cell 3 29] (some (.pan [⟨.iface 29 (.int .i64 k), false⟩], { env := env, defs := rdD a e, par := .none, S := S1 })) = some (.ret (.tup [.agg [.nilsl, .nilsl], .int .i64 k]), .none, S') ∧ Grew [a, e] S1 S' := by
  have he' : (S1.put a (.cells [.nilsl, .nilsl])).get e = some (.cells [z]) := by rw [get_put_ne (Ne.symm hne)]; exact he
  have hp := caught_pan (n := n + 9) (S := S1) 35 [.ptr a 0] k (clearR_call (n := n + 8) ha) he'
  have ha' : ((S1.put a (.cells [.nilsl, .nilsl])).put e (.cells [.int .i64 k])).get a = some (.cells [.nilsl, .nilsl]) := by
    rw [get_put_ne hne]; exact get_put_self ha
  have he2 := get_put_self (o := .cells [.int .i64 k]) he'
  refine ⟨(S1.put a (.cells [.nilsl, .nilsl])).put e (.cells [.int .i64 k]), ?_, (Grew.put _ _ (.inl (by simp)) (by simp)).trans (Grew.put _ _ (.inl (by simp)) (by simp))⟩
  simp [rdD, hp, h2, h3, ha', he2, takeCells_eq, isAggV, put_self ha', put_self he2]
theorem read_mark {n : Nat} (bs : List UInt8) (hb : bs.length < 2 ^ 20) (h : markOk bs = false) :
    ∃ S', runFn Try.prog (handler Try.prog ppol (n + 10)) N ppol 12 .none [.sl false 1 (bs.map byteRow)] S = some (.ret (.tup [.agg [.nilsl, .nilsl], .int .i64 312]), .none, S') ∧ Grew [] S S' := by
  obtain ⟨S1, hS1⟩ : ∃ S1, (S.new (.cells [.nilsl, .nilsl])).new (.cells [.int .i64 0]) = S1 := ⟨_, rfl⟩
  have hg : Grew [] S S1 := by rw [← hS1]; exact (Grew.new _ _ _ (by simp)).trans (Grew.new _ _ _ (by simp))
  have ha : S1.get S.next = some (.cells [.nilsl, .nilsl]) := by rw [← hS1]; simp
  have he : S1.get (S.next + 1) = some (.cells [.int .i64 0]) := by rw [← hS1]; simp
  suffices hs : ∃ S', runFn Try.prog (handler Try.prog ppol (n + 10)) N ppol 12 .none [.sl false 1 (bs.map byteRow)] S = some (.ret (.tup [.agg [.nilsl, .nilsl], .int .i64 312]), .none, S') ∧ Grew [S.next, S.next + 1] S1 S' by
    obtain ⟨S', e1, e2⟩ := hs
    exact ⟨S', e1, hg.behind e2 (by simp)⟩
  rw [runFn_eq Try.func12 (by rfl)]
  unfold markOk at h
  by_cases h8 : 8 ≤ bs.length
  · have g8 : (8 : Int) ≤ bs.length := by omega
    have hm : (bs.take 4 == [80, 77, 73, 77]) = false := by
      rw [decide_eq_true h8, Bool.true_and] at h
      exact h
    have e1 : sliceA Try.prog 28 (.sl false 1 (bs.map byteRow)) none (some (.int .i64 4)) none = some (.sl false 1 ((bs.take 4).map byteRow)) := by
      have := slice_hi (P := Try.prog) (own := false) (es := 1) (rows := bs.map byteRow) (k := 4) (kk := .i64) Try.underlying28 tycells5 (by simp; omega)
      simpa [List.map_take] using this
    have e2 : convA Try.prog 28 9 (.sl false 1 ((bs.map byteRow).take 4)) = some (.str (bs.take 4)) := by
      rw [← List.map_take]; exact conv_str _ _
    simp [Try.f12, lenA, g8, e1, e2, hm, must_call, hS1, -finK_pan]
    exact read_pan ha he (by omega) rfl rfl
  · have g8 : ¬ (8 : Int) ≤ bs.length := by omega
    simp [Try.f12, lenA, g8, must_call, hS1, -finK_pan]
    exact read_pan ha he (by omega) rfl rfl
/-- What the code asks of the first bytes and of the sum. -/
structure RdF (bs : List UInt8) : Prop where
  len : 8 ≤ bs.length
  g8 : (8 : Int) ≤ bs.length
  mark : (bs.take 4 == [80, 77, 73, 77]) = true
  e1 : sliceA Try.prog 28 (.sl false 1 (bs.map byteRow)) none (some (.int .i64 4)) none = some (.sl false 1 ((bs.map byteRow).take 4))
  e2 : convA Try.prog 28 9 (.sl false 1 ((bs.map byteRow).take 4)) = some (.str (bs.take 4))
  w4 : IntKind.i64.wrap ((bs.length : Int) - 4) = ((bs.length - 4 : Nat) : Int)
  e3 : sliceA Try.prog 28 (.sl false 1 (bs.map byteRow)) none (some (.int .i64 (bs.length - 4 : Nat))) (some (.int .i64 (bs.length - 4 : Nat))) = some (.sl false 1 ((bs.take (bs.length - 4)).map byteRow))
  e4 : sliceA Try.prog 28 (.sl false 1 (bs.map byteRow)) (some (.int .i64 (bs.length - 4 : Nat))) none none = some (.sl false 1 ((bs.drop (bs.length - 4)).map byteRow))
theorem rdF {bs : List UInt8} (hb : bs.length < 2 ^ 20) (h : markOk bs = true) : RdF bs := by
  unfold markOk at h
  simp only [Bool.and_eq_true, decide_eq_true_eq] at h
  obtain ⟨h8, hm⟩ := h
  refine ⟨h8, by omega, hm, ?_, ?_, ?_, ?_, ?_⟩
  · have := slice_hi (P := Try.prog) (own := false) (es := 1) (rows := bs.map byteRow) (k := 4) (kk := .i64) Try.underlying28 tycells5 (by simp; omega)
    simpa using this
  · rw [← List.map_take]; exact conv_str _ _
  · rw [show (bs.length : Int) - 4 = ((bs.length - 4 : Nat) : Int) by omega]; exact Go.IntWalk.i64_in _ (by omega)
  · have := slice_hi3 (P := Try.prog) (own := false) (es := 1) (rows := bs.map byteRow) (k := bs.length - 4) (kk := .i64) (kl := .i64) Try.underlying28 tycells5 (by simp)
    have hz : (bs.length - 4 == 0) = false := by rw [beq_eq_false_iff_ne]; omega
    rw [this, hz, ← List.map_take]; rfl
  · have := slice_lo (P := Try.prog) (own := false) (es := 1) (rows := bs.map byteRow) (k := bs.length - 4) (kk := .i64) Try.underlying28 tycells5 (by simp)
    rw [this, ← List.map_drop]
theorem read_sum {n : Nat} (bs : List UInt8) (hb : bs.length < 2 ^ 20) (hn : 2 ^ 20 < n) (h : markOk bs = true) (hs : sumOk bs = false) :
    ∃ S', runFn Try.prog (handler Try.prog ppol (n + 10)) N ppol 12 .none [.sl false 1 (bs.map byteRow)] S = some (.ret (.tup [.agg [.nilsl, .nilsl], .int .i64 312]), .none, S') ∧ Grew [] S S' := by
  obtain ⟨S1, hS1⟩ : ∃ S1, (S.new (.cells [.nilsl, .nilsl])).new (.cells [.int .i64 0]) = S1 := ⟨_, rfl⟩
  have hg : Grew [] S S1 := by rw [← hS1]; exact (Grew.new _ _ _ (by simp)).trans (Grew.new _ _ _ (by simp))
  have ha : S1.get S.next = some (.cells [.nilsl, .nilsl]) := by rw [← hS1]; simp
  have he : S1.get (S.next + 1) = some (.cells [.int .i64 0]) := by rw [← hS1]; simp
  suffices hs : ∃ S', runFn Try.prog (handler Try.prog ppol (n + 10)) N ppol 12 .none [.sl false 1 (bs.map byteRow)] S = some (.ret (.tup [.agg [.nilsl, .nilsl], .int .i64 312]), .none, S') ∧ Grew [S.next, S.next + 1] S1 S' by
    obtain ⟨S', e1, e2⟩ := hs
    exact ⟨S', e1, hg.behind e2 (by simp)⟩
  obtain ⟨h8, g8, hm, e1, e2, w4, e3, e4⟩ := rdF hb h
  have hsum := fun own => sum_call (n := n + 9) (S := S1) own (bs.take (bs.length - 4)) (by simp; omega) (by simp; omega)
  rw [sumB_rows] at hsum
  have heq := fun o1 o2 => equal_call (n := n + 9) (S := S1) o1 o2 (sumB (bs.take (bs.length - 4))) (bs.drop (bs.length - 4)) (by simp only [sumB, List.length_cons, List.length_nil]; omega) (by simp [sumB]) (by simp only [List.length_drop]; omega)
  rw [show (sumB (bs.take (bs.length - 4)) == bs.drop (bs.length - 4)) = sumOk bs from rfl, hs] at heq
  rw [runFn_eq Try.func12 (by rfl)]
  simp [Try.f12, lenA, g8, e1, e2, hm, must_call, hS1, w4, e3, -finK_pan, -List.map_take, -List.map_drop]
  rw [evDraw_go]
  · simp [lenA, w4, e4, hsum, heq, must_call, -finK_pan, -List.map_take, -List.map_drop]
    exact read_pan ha he (by omega) (mask_ptr rfl rfl) (mask_ptr rfl rfl)
  · kernel_rfl
end Go.Ab.Seat
/- Read: the body. -/
namespace Go.Ab.Seat
open Go.Proofs
set_option maxRecDepth 100000
set_option maxHeartbeats 1000000
variable {H : Handler} {N : Nat} {S : Sto}
theorem read_pan' {n a e : Nat} {k : Int} {x y z : AV} {env : List AV} {S0 S1 : Sto} (hg : Grew [a, e] S0 S1) (ha : S1.get a = some (.cells [x, y])) (he : S1.get e = some (.cells [z])) (hne : a ≠ e) (h2 : getT env 2 = .ptr a 0) (h3 : getT env 3 = .ptr e 0) :
    ∃ S', finK Try.prog (handler Try.prog ppol (n + 10)) ppol 12 [.cell 2 25, .cell 3 29] (some (.pan [⟨.iface 29 (.int .i64 k), false⟩], { env := env, defs := rdD a e, par := .none, S := S1 })) = some (.ret (.tup [.agg [.nilsl, .nilsl], .int .i64 k]), .none, S') ∧ Grew [a, e] S0 S' := by
  obtain ⟨S', h1, h2⟩ := read_pan (n := n) (k := k) ha he hne h2 h3
  exact ⟨S', h1, hg.trans h2⟩
/-- A state of the loop over the parts. -/
structure RdI (S5 : Sto) (a r c : Nat) where
  k : Nat
  last : Nat
  bs : List UInt8
  acc : List PartV
  S' : Sto
  hk : k ≤ c
  hl : last ≤ k * 10000
  hb : bs.length < 2 ^ 20
  ha : acc.length = k
  g : Grew [r, a] S5 S'
  hr : S'.get r = some (.cells [.sl false 1 (bs.map byteRow)])
  hA : S'.get a = some (.cells [sv true 2 partRow (optL acc), .nilsl])
def RdE (S5 : Sto) (a r c : Nat) (i : RdI S5 a r c) : St := { env := envOf 100 [(2, .ptr a 0), (3, .ptr (a + 1) 0), (5, .ptr r 0), (6, .int .i64 i.last), (43, .int .i64 c), (44, .int .i64 i.k), (67, .undef), (68, .undef)], defs := rdD a (a + 1), par := .none, S := i.S' }
def RdT (S5 : Sto) (a r c : Nat) (i : RdI S5 a r c) (res : AExit × St) : Prop := match readParts (c - i.k) i.last i.bs with
  | some (ps, b) => ∃ last' : Int, res.1 = .exit 0 ∧ res.2.env = envOf 100 [(45, .bool false), (2, .ptr a 0), (3, .ptr (a + 1) 0), (5, .ptr r 0), (6, .int .i64 last'), (43, .int .i64 c), (44, .int .i64 c), (67, .undef), (68, .undef)] ∧ res.2.defs = rdD a (a + 1) ∧ res.2.par = .none ∧
      Grew [r, a] S5 res.2.S ∧ res.2.S.get r = some (.cells [.sl false 1 (b.map byteRow)]) ∧ res.2.S.get a = some (.cells [sv true 2 partRow (optL (i.acc ++ ps)), .nilsl])
  | none => res.1 = .pan [⟨.iface 29 (.int .i64 310), false⟩] ∧ getT res.2.env 2 = .ptr a 0 ∧ getT res.2.env 3 = .ptr (a + 1) 0 ∧ res.2.defs = rdD a (a + 1) ∧ res.2.par = .none ∧ Grew [r, a] S5 res.2.S ∧ ∃ x y, res.2.S.get a = some (.cells [x, y])
theorem goodAccP (acc : List PartV) : goodO (.cells [sv true 2 partRow (optL acc), .nilsl]) = true := by simp [same_sv true 2 goodPart]
theorem goodBs (o : Bool) (bs : List UInt8) : goodO (.cells [.sl o 1 (bs.map byteRow)]) = true := by simp [same_sl _ _ goodBytes]
theorem RdT_step {S5 : Sto} {a r c : Nat} {i j : RdI S5 a r c} {p : PartV} {res : AExit × St} (h1 : readParts (c - i.k) i.last i.bs = (readParts (c - j.k) j.last j.bs).map fun q => (p :: q.1, q.2)) (h2 : j.acc = i.acc ++ [p]) (h : RdT S5 a r c j res) : RdT S5 a r c i res := by
  unfold RdT at h ⊢
  rw [h1]
  cases hj : readParts (c - j.k) j.last j.bs with
  | none => rw [hj] at h; exact h
  | some q =>
    obtain ⟨ps, b⟩ := q
    rw [hj] at h
    simp only [Option.map_some] at h ⊢
    rw [h2, List.append_assoc] at h
    exact h
theorem RdT_none {S5 : Sto} {a r c : Nat} {i : RdI S5 a r c} {env : List AV} {S1 : Sto} (h1 : readParts (c - i.k) i.last i.bs = none) (h2 : getT env 2 = .ptr a 0) (h3 : getT env 3 = .ptr (a + 1) 0) (hg : Grew [r, a] S5 S1) (hx : ∃ x y, S1.get a = some (.cells [x, y])) :
    RdT S5 a r c i (.pan [⟨.iface 29 (.int .i64 310), false⟩], { env := env, defs := rdD a (a + 1), par := .none, S := S1 }) := by
  unfold RdT
  rw [h1]
  exact ⟨rfl, h2, h3, rfl, rfl, hg, hx⟩
/-- A state of the loop over the names. -/
structure RnI (S5 : Sto) (a r c : Nat) (ps : List PartV) where
  k : Nat
  bs : List UInt8
  acc : List SymV
  S' : Sto
  hk : k ≤ c
  hb : bs.length < 2 ^ 20
  ha : acc.length = k
  g : Grew [r, a] S5 S'
  hr : S'.get r = some (.cells [.sl false 1 (bs.map byteRow)])
  hA : S'.get a = some (.cells [sv true 2 partRow (optL ps), sv true 2 symRow (optL acc)])
def RnE (S5 : Sto) (a r c : Nat) (ps : List PartV) (x y : AV) (i : RnI S5 a r c ps) : St := { env := envOf 100 [(2, .ptr a 0), (3, .ptr (a + 1) 0), (5, .ptr r 0), (6, x), (43, y), (44, y), (67, .int .i64 c), (68, .int .i64 i.k)], defs := rdD a (a + 1), par := .none, S := i.S' }
def RnT (S5 : Sto) (a r c : Nat) (ps : List PartV) (x y : AV) (i : RnI S5 a r c ps) (res : AExit × St) : Prop := match readNames (c - i.k) i.bs with
  | some (ss, b) => res.1 = .exit 2 ∧ res.2.env = envOf 100 [(69, .bool false), (2, .ptr a 0), (3, .ptr (a + 1) 0), (5, .ptr r 0), (6, x), (43, y), (44, y), (67, .int .i64 c), (68, .int .i64 c)] ∧ res.2.defs = rdD a (a + 1) ∧ res.2.par = .none ∧
      Grew [r, a] S5 res.2.S ∧ res.2.S.get r = some (.cells [.sl false 1 (b.map byteRow)]) ∧ res.2.S.get a = some (.cells [sv true 2 partRow (optL ps), sv true 2 symRow (optL (i.acc ++ ss))])
  | none => res.1 = .pan [⟨.iface 29 (.int .i64 310), false⟩] ∧ getT res.2.env 2 = .ptr a 0 ∧ getT res.2.env 3 = .ptr (a + 1) 0 ∧ res.2.defs = rdD a (a + 1) ∧ res.2.par = .none ∧ Grew [r, a] S5 res.2.S ∧ ∃ x y, res.2.S.get a = some (.cells [x, y])
theorem goodAccS (ps : List PartV) (acc : List SymV) : goodO (.cells [sv true 2 partRow (optL ps), sv true 2 symRow (optL acc)]) = true := by simp [same_sv true 2 goodPart, same_sv true 2 goodSym]
theorem RnT_step {S5 : Sto} {a r c : Nat} {ps : List PartV} {x y : AV} {i j : RnI S5 a r c ps} {p : SymV} {res : AExit × St} (h1 : readNames (c - i.k) i.bs = (readNames (c - j.k) j.bs).map fun q => (p :: q.1, q.2)) (h2 : j.acc = i.acc ++ [p]) (h : RnT S5 a r c ps x y j res) : RnT S5 a r c ps x y i res := by
  unfold RnT at h ⊢
  rw [h1]
  cases hj : readNames (c - j.k) j.bs with
  | none => rw [hj] at h; exact h
  | some q =>
    obtain ⟨ss, b⟩ := q
    rw [hj] at h
    simp only [Option.map_some] at h ⊢
    rw [h2, List.append_assoc] at h
    exact h
theorem RnT_none {S5 : Sto} {a r c : Nat} {ps : List PartV} {x y : AV} {i : RnI S5 a r c ps} {env : List AV} {S1 : Sto} (h1 : readNames (c - i.k) i.bs = none) (h2 : getT env 2 = .ptr a 0) (h3 : getT env 3 = .ptr (a + 1) 0) (hg : Grew [r, a] S5 S1) (hx : ∃ x y, S1.get a = some (.cells [x, y])) :
    RnT S5 a r c ps x y i (.pan [⟨.iface 29 (.int .i64 310), false⟩], { env := env, defs := rdD a (a + 1), par := .none, S := S1 }) := by
  unfold RnT
  rw [h1]
  exact ⟨rfl, h2, h3, rfl, rfl, hg, hx⟩
theorem read_body {n : Nat} (bs : List UInt8) (hb : bs.length < 2 ^ 20) (hn : 2 ^ 20 < n) (h : markOk bs = true) (hs : sumOk bs = true) (_hk : SOK S) :
    ∃ S', runFn Try.prog (handler Try.prog ppol (n + 10)) (n + 10) ppol 12 .none [.sl false 1 (bs.map byteRow)] S = some (.ret (readV bs), .none, S') ∧ Grew [] S S' := by
  have hV : readV bs = (match readBody ((bs.take (bs.length - 4)).drop 4) with
    | some f => .tup [.agg (fileC f), .int .i64 0]
    | none => .tup [.agg [.nilsl, .nilsl], .int .i64 310]) := by unfold readV; rw [h, hs]; rfl
  obtain ⟨S1, hS1⟩ : ∃ S1, (S.new (.cells [.nilsl, .nilsl])).new (.cells [.int .i64 0]) = S1 := ⟨_, rfl⟩
  have hg : Grew [] S S1 := by rw [← hS1]; exact (Grew.new _ _ _ (by simp)).trans (Grew.new _ _ _ (by simp))
  have ha : S1.get S.next = some (.cells [.nilsl, .nilsl]) := by rw [← hS1]; simp
  have he : S1.get (S.next + 1) = some (.cells [.int .i64 0]) := by rw [← hS1]; simp
  have hn1 : S1.next = S.next + 2 := by rw [← hS1]; rfl
  obtain ⟨h8, g8, hm, e1, e2, w4, e3, e4⟩ := rdF hb h
  have hsum := fun own => sum_call (n := n + 9) (S := S1) own (bs.take (bs.length - 4)) (by simp; omega) (by simp; omega)
  rw [sumB_rows] at hsum
  have heq := fun o1 o2 => equal_call (n := n + 9) (S := S1) o1 o2 (sumB (bs.take (bs.length - 4))) (bs.drop (bs.length - 4)) (by simp only [sumB, List.length_cons, List.length_nil]; omega) (by simp [sumB]) (by simp only [List.length_drop]; omega)
  rw [show (sumB (bs.take (bs.length - 4)) == bs.drop (bs.length - 4)) = sumOk bs from rfl, hs] at heq
  have e5 : sliceA Try.prog 28 (.sl false 1 ((bs.take (bs.length - 4)).map byteRow)) (some (.int .i64 4)) none none = some (.sl false 1 (((bs.take (bs.length - 4)).drop 4).map byteRow)) := by
    have := slice_lo (P := Try.prog) (own := false) (es := 1) (rows := (bs.take (bs.length - 4)).map byteRow) (k := 4) (kk := .i64) Try.underlying28 tycells5 (by simp; omega)
    rw [List.map_drop]; exact this
  suffices hs : ∃ S', runFn Try.prog (handler Try.prog ppol (n + 10)) (n + 10) ppol 12 .none [.sl false 1 (bs.map byteRow)] S = some (.ret (readV bs), .none, S') ∧ Grew [S.next, S.next + 1] S1 S' by
    obtain ⟨S', e1, e2⟩ := hs
    exact ⟨S', e1, hg.behind e2 (by simp)⟩
  rw [hV]
  clear hV
  have hlB : ((bs.take (bs.length - 4)).drop 4).length < 2 ^ 20 := by simp only [List.length_drop, List.length_take]; omega
  generalize hB : (bs.take (bs.length - 4)).drop 4 = B at e5 hlB
  generalize haid : S.next = a at *
  obtain ⟨S2, hS2⟩ : ∃ S2, S1.new (.cells [.sl false 1 (B.map byteRow)]) = S2 := ⟨_, rfl⟩
  have hg12 : Grew [] S1 S2 := by rw [← hS2]; exact Grew.new _ _ _ (goodBs _ _)
  have hr2 : S2.get (a + 2) = some (.cells [.sl false 1 (B.map byteRow)]) := by rw [← hS2, ← hn1]; exact get_new_self _ _
  have ha2 : S2.get a = some (.cells [.nilsl, .nilsl]) := (hg12.get a (by omega) (by simp)).trans ha
  have he2 : S2.get (a + 1) = some (.cells [.int .i64 0]) := (hg12.get (a + 1) (by omega) (by simp)).trans he
  obtain ⟨bs', c1⟩ := number_call (n := n + 7) (S := S2) (id := a + 2) B (by omega) (by omega) hr2
  rw [runFn_eq Try.func12 (by rfl)]
  simp [Try.f12, lenA, g8, e1, e2, hm, must_call, haid, hS1, w4, e3, -finK_pan, -List.map_take, -List.map_drop]
  rw [evDraw_go]
  rotate_left
  · kernel_rfl
  simp [lenA, w4, e4, e5, hsum, heq, must_call, build71, build79, hn1, hS2, -finK_pan, -List.map_take, -List.map_drop]
  unfold readBody
  cases hnum : numOf B with
  | none =>
    rw [hnum] at c1
    simp only at c1
    simp [c1, errPan, -finK_pan]
    have gx : Grew [a + 2] S2 (S2.put (a + 2) (.cells [.sl false 1 (bs'.map byteRow)])) := Grew.put _ _ (.inl (by simp)) (goodBs _ _)
    exact read_pan' ((hg12.behind gx (by simp; omega)).mono' (by simp)) (by rw [get_put_ne (by omega)]; exact ha2) (by rw [get_put_ne (by omega)]; exact he2) (by omega) rfl rfl
  | some q =>
    obtain ⟨c, b1⟩ := q
    rw [hnum] at c1
    simp only at c1
    have hcq := numOf_le hnum
    obtain ⟨r, hrid⟩ : ∃ r, a + 2 = r := ⟨_, rfl⟩
    rw [hrid] at c1 hr2
    simp [c1, hrid, -finK_pan]
    generalize hL : loopN _ _ _ _ = L
    have gput : ∀ S' : Sto, ∀ l : List UInt8, Grew [r, a] S2 S' → Grew [r, a] S2 (S'.put r (.cells [.sl false 1 (l.map byteRow)])) := fun S' l hh => hh.trans (Grew.put _ _ (.inl (by simp)) (goodBs _ _))
    obtain ⟨x, st', rfl, hT⟩ := loop_fam' hL (RdE S2 a r c) (RdT S2 a r c) (fun i => c - i.k)
      ⟨0, 0, b1, [], S2.put r (.cells [.sl false 1 (b1.map byteRow)]), by omega, by omega, by omega, rfl, gput _ _ (Grew.refl _ _), get_put_self hr2, by rw [get_put_ne (by omega)]; exact ha2⟩
      (by show c - 0 < n + 10; omega) (by simp [RdE, rdD]) (fun i => by
      obtain ⟨k, last, l0, acc, S', hk', hl', hb', hac, g', hr', hA'⟩ := i
      clear hL
      have gp := fun l => gput S' l g'
      have hAp : ∀ X, (S'.put r X).get a = some (.cells [sv true 2 partRow (optL acc), .nilsl]) := fun X => by rw [get_put_ne (by omega)]; exact hA'
      by_cases hkc : k < c
      · obtain ⟨m, hm'⟩ : ∃ m, c - k = m + 1 := ⟨c - k - 1, by omega⟩
        obtain ⟨q1, d1⟩ := number_call (n := n + 7) (S := S') (id := r) l0 (by omega) (by omega) hr'
        cases hn1 : numOf l0 with
        | none =>
          rw [hn1] at d1
          simp only at d1
          simp [RdE, rdD, hkc, d1, errPan]
          exact RdT_none (by simp only [hm', readParts, hn1]) rfl rfl (gp _) ⟨_, _, hAp _⟩
        | some x1 =>
          obtain ⟨d, l1⟩ := x1
          rw [hn1] at d1
          simp only at d1
          have hd := numOf_le hn1
          obtain ⟨q2, d2⟩ := number_call (n := n + 7) (S := S'.put r (.cells [.sl false 1 (l1.map byteRow)])) (id := r) l1 (by omega) (by omega) (get_put_self hr')
          have w1 : IntKind.i64.wrap ((last : Int) + (d : Int)) = ((last + d : Nat) : Int) := by
            rw [← Int.natCast_add]; exact Go.IntWalk.i64_in _ (by omega)
          cases hn2 : numOf l1 with
          | none =>
            rw [hn2] at d2
            simp only at d2
            simp [RdE, rdD, hkc, d1, d2, w1, build45, writeCells, errPan, -Int.natCast_add]
            exact RdT_none (by simp only [hm', readParts, hn1, hn2]) rfl rfl (gp _) ⟨_, _, hAp _⟩
          | some x2 =>
            obtain ⟨len, l2⟩ := x2
            rw [hn2] at d2
            simp only at d2
            have hlen := numOf_le hn2
            have d3 := take_call (n := n + 8) (S := S'.put r (.cells [.sl false 1 (l2.map byteRow)])) (id := r) l2 len (by omega) (by omega) (get_put_self hr')
            by_cases hle : len ≤ l2.length
            · rw [if_pos hle] at d3
              have d4 := fun S own => clone_call (n := n + 9) (S := S) own (some (l2.take len)) (by simp [ol]; omega)
              have w2 : IntKind.i64.wrap (((last + d : Nat) : Int) + ((l2.take len).length : Int)) = ((last + d + len : Nat) : Int) := by
                rw [← Int.natCast_add, List.length_take, Nat.min_eq_left hle]; exact Go.IntWalk.i64_in _ (by omega)
              have d5 := fun S own => end_call (n := n + 9) (S := S) ((last + d : Nat) : Int) (some (l2.take len)) own
              simp only [sv_some, ol, Option.getD_some] at d4 d5
              have g7 : IntKind.i64.wrap ((k : Int) + 1) = (k : Int) + 1 := wrap_succ hkc (by omega)
              have happ := fun st o => app_accP (st := st) (o := o) (acc := acc) (p := ⟨((last + d : Nat) : Int), some (l2.take len)⟩) (by omega)
              simp only [partRow, sv_some] at happ
              have hap : ∀ X Y, ((S'.put r X).put a Y).get a = some Y := fun X Y => get_put_self (hAp X)
              simp [RdE, rdD, hkc, d1, d2, d3, d4, d5, w1, w2, g7, build45, writeCells, buildSliceA, fillRows, hAp, hap, takeCells_eq, happ, -Int.natCast_add, -List.map_take, -List.map_drop, -List.length_take]
              refine ⟨⟨k + 1, last + d + len, l2.drop len, acc ++ [⟨((last + d : Nat) : Int), some (l2.take len)⟩], (S'.put r (.cells [.sl false 1 ((l2.drop len).map byteRow)])).put a (.cells [sv true 2 partRow (optL (acc ++ [⟨((last + d : Nat) : Int), some (l2.take len)⟩])), .nilsl]), hkc, by omega, by simp only [List.length_drop]; omega, by simp [hac], (gp _).trans (Grew.put _ _ (.inl (by simp)) (goodAccP _)), by rw [get_put_ne (by omega)]; exact get_put_self hr', hap _ _⟩, ?_, ⟨⟨rfl, rfl⟩, rfl⟩, ?_⟩
              · show c - (k + 1) < c - k; omega
              · intro r1 st1
                refine RdT_step (p := ⟨((last + d : Nat) : Int), some (l2.take len)⟩) ?_ rfl
                show readParts (c - k) last l0 = (readParts (c - (k + 1)) (last + d + len) (l2.drop len)).map _
                rw [hm', show c - (k + 1) = m by omega]
                simp only [readParts, hn1, hn2, if_pos hle]
                cases readParts m (last + d + len) (l2.drop len) with
                | none => rfl
                | some q => rfl
            · rw [if_neg hle] at d3
              simp [RdE, rdD, hkc, d1, d2, d3, w1, build45, writeCells, errPan, -Int.natCast_add]
              exact RdT_none (by simp only [hm', readParts, hn1, hn2, if_neg hle]) rfl rfl (gp _) ⟨_, _, hAp _⟩
      · have : k = c := by omega
        subst this
        simp [RdE, rdD, RdT, readParts, g', hr', hA'])
    clear hL
    unfold RdT at hT
    simp only [Nat.sub_zero, List.nil_append] at hT
    obtain ⟨env9, defs9, par9, S9⟩ := st'
    cases hps : readParts c 0 b1 with
    | none =>
      rw [hps] at hT
      obtain ⟨rfl, t1, t2, t3, t4, t5, ⟨x1, x2, t6⟩⟩ := hT
      simp only at t1 t2 t3 t4 t5 t6
      subst t3 t4
      simp [-finK_pan]
      exact read_pan' (((hg12.mono' (by simp)).trans t5).mono (by simp; omega)) t6 ((t5.get (a + 1) (by rw [← hS2, next_new]; omega) (by simp; omega)).trans he2) (by omega) t1 t2
    | some q1 =>
      obtain ⟨ps, b2⟩ := q1
      rw [hps] at hT
      obtain ⟨last9, rfl, t1, t3, t4, t5, t6, t7⟩ := hT
      simp only at t1 t3 t4 t5 t6 t7
      subst t3 t4 t1
      have hpl := readParts_len _ _ _ hps
      have he9 : S9.get (a + 1) = some (.cells [.int .i64 0]) := (t5.get (a + 1) (by rw [← hS2, next_new]; omega) (by simp; omega)).trans he2
      have hgR9 : Grew [r, a] S1 S9 := (hg12.mono' (by simp)).trans t5
      have gput9 : ∀ S' : Sto, ∀ l : List UInt8, Grew [r, a] S9 S' → Grew [r, a] S9 (S'.put r (.cells [.sl false 1 (l.map byteRow)])) := fun S' l hh => hh.trans (Grew.put _ _ (.inl (by simp)) (goodBs _ _))
      have hn9 := t5.next
      have hn2 : S2.next = a + 3 := by rw [← hS2, next_new]; omega
      obtain ⟨bs9, c2⟩ := number_call (n := n + 7) (S := S9) (id := r) b2 (by omega) (by omega) t6
      cases hnum2 : numOf b2 with
      | none =>
        rw [hnum2] at c2
        simp only at c2
        simp [c2, errPan, -finK_pan]
        have gx := gput9 S9 bs9 (Grew.refl _ _)
        rw [hnum2]
        exact read_pan' ((hgR9.trans gx).mono (by simp; omega)) (by rw [get_put_ne (by omega)]; exact t7) (by rw [get_put_ne (by omega)]; exact he9) (by omega) rfl rfl
      | some q2 =>
        obtain ⟨d, b3⟩ := q2
        rw [hnum2] at c2
        simp only at c2
        have hdq := numOf_le hnum2
        simp [c2, -finK_pan]
        generalize hL : loopN _ _ _ _ = L
        obtain ⟨x, st', rfl, hT⟩ := loop_fam' hL (RnE S9 a r d ps (.int .i64 last9) (.int .i64 c)) (RnT S9 a r d ps (.int .i64 last9) (.int .i64 c)) (fun i => d - i.k)
          ⟨0, b3, [], S9.put r (.cells [.sl false 1 (b3.map byteRow)]), by omega, by omega, rfl, gput9 _ _ (Grew.refl _ _), get_put_self t6, by rw [get_put_ne (by omega)]; exact t7⟩
          (by show d - 0 < n + 10; omega) (by simp [RnE, rdD]) (fun i => by
          obtain ⟨k, l0, acc, S', hk', hb', hac, g', hr', hA'⟩ := i
          clear hL
          have gp := fun l => gput9 S' l g'
          have hAp : ∀ X, (S'.put r X).get a = some (.cells [sv true 2 partRow (optL ps), sv true 2 symRow (optL acc)]) := fun X => by rw [get_put_ne (by omega)]; exact hA'
          have hap : ∀ X Y, ((S'.put r X).put a Y).get a = some Y := fun X Y => get_put_self (hAp X)
          by_cases hkc : k < d
          · obtain ⟨m, hm'⟩ : ∃ m, d - k = m + 1 := ⟨d - k - 1, by omega⟩
            cases l0 with
            | nil =>
              have d1 := take1_nil (n := n + 8) (S := S') (id := r) hr'
              simp [RnE, rdD, hkc, d1, errPan]
              exact RnT_none (by simp only [hm', readNames]) rfl rfl g' ⟨_, _, hA'⟩
            | cons x l1 =>
              simp only [List.length_cons] at hb'
              have hx := x.toNat_lt
              have d1 := take1_cons (n := n + 8) (S := S') (id := r) (x := x) (r := l1) (by omega) hr'
              have d2 := take_call (n := n + 8) (S := S'.put r (.cells [.sl false 1 (l1.map byteRow)])) (id := r) l1 x.toNat (by omega) (by omega) (get_put_self hr')
              by_cases hle : x.toNat ≤ l1.length
              · rw [if_pos hle] at d2
                have d3 := fun o => conv_str o (l1.take x.toNat)
                obtain ⟨q4, d4⟩ := number_call (n := n + 7) (S := S'.put r (.cells [.sl false 1 ((l1.drop x.toNat).map byteRow)])) (id := r) (l1.drop x.toNat) (by simp only [List.length_drop]; omega) (by omega) (get_put_self hr')
                cases hn1 : numOf (l1.drop x.toNat) with
                | none =>
                  rw [hn1] at d4
                  simp only at d4
                  simp [RnE, rdD, hkc, d1, d2, d4, wrap_b64, indexAddrA, build64, writeCells, convA, errPan, -List.map_take, -List.map_drop]
                  exact RnT_none (by simp only [hm', readNames, if_pos hle, hn1]) rfl rfl (gp _) ⟨_, _, hAp _⟩
                | some x1 =>
                  obtain ⟨d', l2⟩ := x1
                  rw [hn1] at d4
                  simp only at d4
                  have hd := numOf_le hn1
                  rw [List.length_drop] at hd
                  have g7 : IntKind.i64.wrap ((k : Int) + 1) = (k : Int) + 1 := wrap_succ hkc (by omega)
                  have happ := fun st o => app_accS (st := st) (o := o) (acc := acc) (p := ⟨l1.take x.toNat, (d' : Int)⟩) (by omega)
                  simp only [symRow] at happ
                  simp [RnE, rdD, hkc, d1, d2, d4, wrap_b64, g7, indexAddrA, convA, build64, writeCells, buildSliceA, fillRows, hAp, hap, takeCells_eq, happ, -List.map_take, -List.map_drop]
                  refine ⟨⟨k + 1, l2, acc ++ [⟨l1.take x.toNat, (d' : Int)⟩], (S'.put r (.cells [.sl false 1 (l2.map byteRow)])).put a (.cells [sv true 2 partRow (optL ps), sv true 2 symRow (optL (acc ++ [⟨l1.take x.toNat, (d' : Int)⟩]))]), hkc, by omega, by simp [hac], (gp _).trans (Grew.put _ _ (.inl (by simp)) (goodAccS _ _)), by rw [get_put_ne (by omega)]; exact get_put_self hr', hap _ _⟩, ?_, ⟨rfl, rfl⟩, ?_⟩
                  · show d - (k + 1) < d - k; omega
                  · intro r1 st1
                    refine RnT_step (p := ⟨l1.take x.toNat, (d' : Int)⟩) ?_ rfl
                    show readNames (d - k) (x :: l1) = (readNames (d - (k + 1)) l2).map _
                    rw [hm', show d - (k + 1) = m by omega]
                    simp only [readNames, hn1, if_pos hle]
                    cases readNames m l2 with
                    | none => rfl
                    | some q => rfl
              · rw [if_neg hle] at d2
                simp [RnE, rdD, hkc, d1, d2, wrap_b64, indexAddrA, convA, errPan]
                exact RnT_none (by simp only [hm', readNames, if_neg hle]) rfl rfl (gp _) ⟨_, _, hAp _⟩
          · have : k = d := by omega
            subst this
            simp [RnE, rdD, RnT, readNames, g', hr', hA'])
        clear hL
        unfold RnT at hT
        simp only [Nat.sub_zero, List.nil_append] at hT
        obtain ⟨env9, defs9, par9, S10⟩ := st'
        rw [hnum2]
        simp only
        cases hss : readNames d b3 with
        | none =>
          rw [hss] at hT
          obtain ⟨rfl, u1, u2, u3, u4, u5, ⟨x1, x2, u6⟩⟩ := hT
          simp only at u1 u2 u3 u4 u5 u6
          subst u3 u4
          simp [-finK_pan]
          exact read_pan' ((hgR9.trans u5).mono (by simp; omega)) u6 ((u5.get (a + 1) (by omega) (by simp; omega)).trans he9) (by omega) u1 u2
        | some q3 =>
          obtain ⟨ss, b4⟩ := q3
          rw [hss] at hT
          obtain ⟨rfl, u1, u3, u4, u5, u6, u7⟩ := hT
          simp only at u1 u3 u4 u5 u6 u7
          subst u3 u4 u1
          have hnl := readNames_len _ _ hss
          have he10 : S10.get (a + 1) = some (.cells [.int .i64 0]) := (u5.get (a + 1) (by omega) (by simp; omega)).trans he9
          have hg110 : Grew [a, a + 1] S1 S10 := (hgR9.trans u5).mono (by simp; omega)
          have hn10 := u5.next
          have hsm : Small ⟨optL ps, optL ss⟩ (n + 4) := ⟨by simp only [ol_optL]; omega, by simp only [ol_optL]; omega, fun s hs => by simp only [ol_optL] at hs; have := hnl.2 s hs; omega, by omega⟩
          obtain ⟨S11, c3, hg11⟩ := right_call (n := n + 4) (S := S10) ⟨optL ps, optL ss⟩ hsm
          simp only [fileC] at c3
          cases b4 with
          | cons z b5 =>
            have hz : (((b5.length : Int) + 1) == 0) = false := by rw [beq_eq_false_iff_ne]; omega
            simp [u6, lenA, must_call, hz, -finK_pan]
            exact read_pan' hg110 u7 he10 (by omega) rfl rfl
          | nil =>
            cases hok : rightOk ⟨optL ps, optL ss⟩
            · rw [hok] at c3
              simp [u6, u7, lenA, must_call, c3, errPan, hok, -finK_pan]
              refine read_pan' (hg110.trans (hg11.mono' (by simp))) ((hg11.get a (by omega) (by simp)).trans u7) ((hg11.get (a + 1) (by omega) (by simp)).trans he10) (by omega) ?_ ?_ <;> rfl
            · rw [hok] at c3
              have ha11 := (hg11.get a (by omega) (by simp)).trans u7
              have he11 := (hg11.get (a + 1) (by omega) (by simp)).trans he10
              have ga : ∀ X, (S11.put a X).get a = some X := fun X => get_put_self ha11
              have ge : ∀ X, (S11.put a X).get (a + 1) = some (.cells [.int .i64 0]) := fun X => by rw [get_put_ne (by omega)]; exact he11
              have ge' : ∀ X Y, ((S11.put a X).put (a + 1) Y).get (a + 1) = some Y := fun X Y => get_put_self (ge X)
              have ga' : ∀ X Y, ((S11.put a X).put (a + 1) Y).get a = some X := fun X Y => by rw [get_put_ne (by omega)]; exact ga X
              have ga2 : ∀ X Y Z, (((S11.put a X).put (a + 1) Y).put a Z).get a = some Z := fun X Y Z => get_put_self (ga' X Y)
              have ge2 : ∀ X Y Z, (((S11.put a X).put (a + 1) Y).put a Z).get (a + 1) = some Y := fun X Y Z => by rw [get_put_ne (by omega)]; exact ge' X Y
              have hq := fun S' => caught_ret (n := n + 9) (S := S') _ (a + 1) 35 [] [.ptr a 0] rfl
              simp [u6, u7, lenA, must_call, c3, ha11, writeCells, ge, ga', ge2, rdD, hq, takeCells_eq, isAggV, fileC, hok]
              have gg : ∀ o, goodO (.cells [sv o 2 partRow (optL ps), sv o 2 symRow (optL ss)]) = true := fun o => by simp [same_sv _ 2 goodPart, same_sv _ 2 goodSym]
              have x1 : Grew [a, a + 1] S11 (S11.put a (.cells [sv false 2 partRow (optL ps), sv false 2 symRow (optL ss)])) := Grew.put _ _ (.inl (by simp)) (gg _)
              have x2 := x1.trans (Grew.put _ (id := a + 1) (.cells [.int .i64 0]) (.inl (by simp)) (by simp))
              have x3 := x2.trans (Grew.put _ (id := a) (.cells [sv false 2 partRow (optL ps), sv false 2 symRow (optL ss)]) (.inl (by simp)) (gg _))
              have x4 := x3.trans (Grew.put _ (id := a + 1) (.cells [.int .i64 0]) (.inl (by simp)) (by simp))
              exact (hg110.trans (hg11.mono' (by simp))).trans x4
theorem read_call {n : Nat} (bs : List UInt8) (hb : bs.length < 2 ^ 20) (hn : 2 ^ 20 < n) (hk : SOK S) :
    ∃ S', (handler Try.prog ppol (n + 11)).call (.func 12) [.sl false 1 (bs.map byteRow)] S = some (.ret (readV bs), S') ∧ Grew [] S S' := by
  cases h : markOk bs
  · obtain ⟨S', e, hg⟩ := read_mark (n := n) (N := n + 10) (S := S) bs hb h
    refine ⟨S', ?_, hg⟩
    rw [call_func (by rfl), e]
    unfold readV
    rw [h]; rfl
  · cases hs : sumOk bs
    · obtain ⟨S', e, hg⟩ := read_sum (n := n) (N := n + 10) (S := S) bs hb hn h hs
      refine ⟨S', ?_, hg⟩
      rw [call_func (by rfl), e]
      unfold readV
      rw [h, hs]; rfl
    · obtain ⟨S', e, hg⟩ := read_body (n := n) (S := S) bs hb hn h hs hk
      exact ⟨S', by rw [call_func (by rfl), e]; rfl, hg⟩
end Go.Ab.Seat
/- Plain laws: what is read is what was laid; a sum tells one byte from another. -/
namespace Go.Ab.Seat
open Go.Proofs
set_option maxRecDepth 100000
set_option maxHeartbeats 1000000
theorem numB_small {x : Nat} (h : x < 128) : numB x = [UInt8.ofNat x] := by
  have h1 : hiB x = [] := by rw [hiB, if_neg (by omega)]
  have h2 : leadB x = x := by rw [leadB, if_neg (by omega)]
  rw [numB, h1, h2]; rfl
theorem numB_big {m : Nat} (h : 128 ≤ m) : numB m = UInt8.ofNat (m % 128 + 128) :: numB (m / 128) := by
  have h1 : hiB m = UInt8.ofNat (m % 128 + 128) :: hiB (m / 128) := by rw [hiB, if_pos h]
  have h2 : leadB m = leadB (m / 128) := by rw [leadB, if_pos h]
  rw [numB, h1, h2]; rfl
theorem u8_of (x : UInt8) {k : Nat} (h : x.toNat = k) : UInt8.ofNat k = x := by
  subst h; simp
theorem numGo_back : ∀ (i by' n : Nat) (bs : List UInt8) {k : Nat} {r : List UInt8}, 0 < by' → numGo i by' n bs = some (k, r) → ∃ m, k = n + m * by' ∧ bs = numB m ++ r ∧ (by' = 1 ∨ 0 < m)
  | 0, _, _, _, _, _, _, h => by simp [numGo] at h
  | _ + 1, _, _, [], _, _, _, h => by simp [numGo] at h
  | i + 1, by', n, x :: l, k, r, hb, h => by
    simp only [numGo] at h
    split at h
    · rename_i hx
      split at h
      · rename_i hc
        simp only [Option.some.injEq, Prod.mk.injEq] at h
        obtain ⟨rfl, rfl⟩ := h
        refine ⟨x.toNat, by rw [Nat.mod_eq_of_lt hx], ?_, hc.1⟩
        rw [numB_small hx, u8_of x rfl]; rfl
      · cases h
    · rename_i hx
      obtain ⟨m, h1, h2, h3⟩ := numGo_back i _ _ l (by omega) h
      have hm : 0 < m := by
        rcases h3 with h3 | h3
        · omega
        · exact h3
      have hlt := x.toNat_lt
      refine ⟨x.toNat % 128 + 128 * m, ?_, ?_, .inr (by omega)⟩
      · rw [h1, Nat.add_mul, Nat.add_assoc]
        congr 2
        rw [Nat.mul_comm by' 128, ← Nat.mul_assoc, Nat.mul_comm m 128]
      · rw [numB_big (by omega)]
        have e1 : (x.toNat % 128 + 128 * m) % 128 = x.toNat % 128 := by omega
        have e2 : (x.toNat % 128 + 128 * m) / 128 = m := by omega
        rw [e1, e2, u8_of x (by omega), h2]; rfl
theorem numOf_back {bs : List UInt8} {k : Nat} {r : List UInt8} (h : numOf bs = some (k, r)) : bs = numB k ++ r := by
  obtain ⟨m, h1, h2, -⟩ := numGo_back 3 1 0 bs (by omega) h
  rw [h2, h1]; simp
theorem readParts_back : ∀ (c last : Nat) (bs : List UInt8) {ps : List PartV} {r : List UInt8}, readParts c last bs = some (ps, r) → bs = partsB last ps ++ r
  | 0, _, _, _, _, h => by
    simp only [readParts, Option.some.injEq, Prod.mk.injEq] at h
    obtain ⟨rfl, rfl⟩ := h
    rfl
  | c + 1, last, bs, ps, r, h => by
    simp only [readParts] at h
    split at h
    · cases h
    · rename_i d b1 h1
      split at h
      · cases h
      · rename_i len b2 h2
        split at h
        · rename_i hle
          split at h
          · cases h
          · rename_i ps' r' hr
            simp only [Option.some.injEq, Prod.mk.injEq] at h
            obtain ⟨rfl, rfl⟩ := h
            have ih := readParts_back c _ _ hr
            have e1 := numOf_back h1
            have e2 := numOf_back h2
            have e3 : atN ⟨((last + d : Nat) : Int), some (b2.take len)⟩ = last + d := rfl
            have e4 : plen ⟨((last + d : Nat) : Int), some (b2.take len)⟩ = len := by simp [plen, ol, Nat.min_eq_left hle]
            have e5 : endN ⟨((last + d : Nat) : Int), some (b2.take len)⟩ = last + d + len := by unfold endN; rw [e3, e4]
            have e6 : b2 = b2.take len ++ b2.drop len := (List.take_append_drop len b2).symm
            rw [e1, e2]
            show _ = partB last _ ++ partsB (endN _) ps' ++ r'
            rw [e5]
            unfold partB
            rw [e3, e4, Nat.add_sub_cancel_left]
            show _ = numB d ++ numB len ++ b2.take len ++ partsB (last + d + len) ps' ++ r'
            conv => lhs; rw [e6, ih]
            simp only [List.append_assoc]
        · cases h
theorem readNames_back : ∀ (c : Nat) (bs : List UInt8) {ss : List SymV} {r : List UInt8}, readNames c bs = some (ss, r) → bs = ss.flatMap symB ++ r
  | 0, _, _, _, h => by
    simp only [readNames, Option.some.injEq, Prod.mk.injEq] at h
    obtain ⟨rfl, rfl⟩ := h
    rfl
  | _ + 1, [], _, _, h => by simp [readNames] at h
  | c + 1, x :: b1, ss, r, h => by
    simp only [readNames] at h
    split at h
    · rename_i hle
      split at h
      · cases h
      · rename_i d b2 h1
        split at h
        · cases h
        · rename_i ss' r' hr
          simp only [Option.some.injEq, Prod.mk.injEq] at h
          obtain ⟨rfl, rfl⟩ := h
          have ih := readNames_back c _ hr
          have e1 := numOf_back h1
          have e6 : b1 = b1.take x.toNat ++ b1.drop x.toNat := (List.take_append_drop _ b1).symm
          have e2 : symB ⟨b1.take x.toNat, (d : Int)⟩ = x :: b1.take x.toNat ++ numB d := by
            unfold symB
            simp [Nat.min_eq_left hle]
          rw [List.flatMap_cons, e2]
          conv => lhs; rw [e6, e1, ih]
          simp only [List.append_assoc, List.cons_append]
    · cases h
theorem readBody_back {bs : List UInt8} {g : FileV} (h : readBody bs = some g) : rightOk g = true ∧ markB ++ bs = bodyB g := by
  unfold readBody at h
  split at h
  · cases h
  · rename_i c b1 h1
    split at h
    · cases h
    · rename_i ps b2 h2
      split at h
      · cases h
      · rename_i d b3 h3
        split at h
        · cases h
        · rename_i ss b4 h4
          split at h
          · rename_i hok
            simp only [Option.some.injEq] at h
            subst h
            refine ⟨hok.2, ?_⟩
            have l1 := (readParts_len _ _ _ h2).1
            have l2 := (readNames_len _ _ h4).1
            have e1 := numOf_back h1
            have e2 := readParts_back _ _ _ h2
            have e3 := numOf_back h3
            have e4 := readNames_back _ _ h4
            unfold bodyB headB
            simp only [ol_optL]
            rw [l1, l2, e1, e2, e3, e4, hok.1]
            simp only [List.append_assoc, List.append_nil]
          · cases h
theorem read_back {c : List UInt8} {g : FileV} (hm : markOk c = true) (hs : sumOk c = true) (h : readBody ((c.take (c.length - 4)).drop 4) = some g) : rightOk g = true ∧ rawB g = c := by
  obtain ⟨h1, h2⟩ := readBody_back h
  refine ⟨h1, ?_⟩
  unfold markOk at hm
  simp only [Bool.and_eq_true, decide_eq_true_eq, beq_iff_eq] at hm
  unfold sumOk at hs
  rw [beq_iff_eq] at hs
  have e : markB ++ (c.take (c.length - 4)).drop 4 = c.take (c.length - 4) := by
    rw [← hm.2]
    conv => rhs; rw [← List.take_append_drop 4 (c.take (c.length - 4))]
    rw [List.take_take, Nat.min_eq_left (by omega)]
  unfold rawB
  rw [← h2, e, hs, List.take_append_drop]
/-! ### The sum -/
theorem u32_wrap (x : Int) : IntKind.u32.wrap x = x % 4294967296 := by simp [IntKind.wrap, IntKind.bits, IntKind.signed]
theorem sumStep_eq (s : Int) (b : UInt8) : sumStep s b = (33 * s + b.toNat) % 4294967296 := by
  unfold sumStep
  rw [u32_wrap, u32_wrap, Int.emod_add_emod]
theorem sumStep_range (s : Int) (b : UInt8) : 0 ≤ sumStep s b ∧ sumStep s b < 4294967296 := by
  rw [sumStep_eq]
  exact ⟨Int.emod_nonneg _ (by omega), Int.emod_lt_of_pos _ (by omega)⟩
theorem sumStep_inj {s s' : Int} (b : UInt8) (h1 : 0 ≤ s ∧ s < 4294967296) (h2 : 0 ≤ s' ∧ s' < 4294967296) (h : sumStep s b = sumStep s' b) : s = s' := by
  rw [sumStep_eq, sumStep_eq] at h
  omega
theorem sumFold_range : ∀ (bs : List UInt8) (s : Int), 0 ≤ s ∧ s < 4294967296 → 0 ≤ bs.foldl sumStep s ∧ bs.foldl sumStep s < 4294967296
  | [], _, h => h
  | b :: bs, s, _ => sumFold_range bs (sumStep s b) (sumStep_range s b)
theorem sumFold_inj : ∀ (bs : List UInt8) {s s' : Int}, (0 ≤ s ∧ s < 4294967296) → (0 ≤ s' ∧ s' < 4294967296) → bs.foldl sumStep s = bs.foldl sumStep s' → s = s'
  | [], _, _, _, _, h => h
  | b :: bs, s, s', h1, h2, h => sumStep_inj b h1 h2 (sumFold_inj bs (sumStep_range s b) (sumStep_range s' b) h)
theorem sumOf_other {p q : List UInt8} {x y : UInt8} (h : sumOf (p ++ x :: q) = sumOf (p ++ y :: q)) : x = y := by
  unfold sumOf at h
  simp only [List.foldl_append, List.foldl_cons] at h
  have h0 := sumFold_range p 5381 (by omega)
  generalize p.foldl sumStep 5381 = s at h h0
  have := sumFold_inj q (sumStep_range s x) (sumStep_range s y) h
  rw [sumStep_eq, sumStep_eq] at this
  have hx := x.toNat_lt
  have hy := y.toNat_lt
  apply UInt8.toNat_inj.1
  omega
theorem byteAt_val (x : Int) : ((byteAt x).toNat : Int) = x % 256 := by
  have e : IntKind.u8.wrap x = x % 256 := by simp [IntKind.wrap, IntKind.bits, IntKind.signed]
  unfold byteAt
  rw [e]
  have h1 := Int.emod_nonneg x (show (256 : Int) ≠ 0 by omega)
  have h2 := Int.emod_lt_of_pos x (show (0 : Int) < 256 by omega)
  rw [UInt8.toNat_ofNat', Nat.mod_eq_of_lt (by omega)]
  omega
theorem sumB_inj {a b : List UInt8} (h : sumB a = sumB b) : sumOf a = sumOf b := by
  have ha := sumFold_range a 5381 (by omega)
  have hb := sumFold_range b 5381 (by omega)
  rw [show a.foldl sumStep 5381 = sumOf a from rfl] at ha
  rw [show b.foldl sumStep 5381 = sumOf b from rfl] at hb
  simp only [sumB, List.cons.injEq, and_true] at h
  obtain ⟨h1, h2, h3, h4⟩ := h
  have f1 := congrArg (fun b => ((UInt8.toNat b : Nat) : Int)) h1
  have f2 := congrArg (fun b => ((UInt8.toNat b : Nat) : Int)) h2
  have f3 := congrArg (fun b => ((UInt8.toNat b : Nat) : Int)) h3
  have f4 := congrArg (fun b => ((UInt8.toNat b : Nat) : Int)) h4
  simp only [byteAt_val] at f1 f2 f3 f4
  generalize sumOf a = x at *
  generalize sumOf b = y at *
  rw [Int.fdiv_eq_ediv_of_nonneg _ (by decide), Int.fdiv_eq_ediv_of_nonneg _ (by decide)] at f2 f3 f4
  omega
/-- A byte of a file's bytes, told otherwise. -/
theorem bent {f : FileV} {at' : Nat} {v : UInt8} (hat : at' < (rawB f).length) (hv : (rawB f)[at'] ≠ v) : sumOk ((rawB f).take at' ++ v :: (rawB f).drop (at' + 1)) = false := by
  generalize hc : (rawB f).take at' ++ v :: (rawB f).drop (at' + 1) = c
  have hlen : c.length = (rawB f).length := by
    rw [← hc]; simp only [List.length_append, List.length_take, List.length_cons, List.length_drop]; omega
  have hL : (rawB f).length = (bodyB f).length + 4 := by simp [rawB, sumB]
  unfold sumOk
  rw [beq_eq_false_iff_ne]
  intro h
  rw [hlen, hL, Nat.add_sub_cancel] at h
  generalize hB : bodyB f = B at *
  have hr : rawB f = B ++ sumB B := by unfold rawB; rw [hB]
  by_cases hlt : at' < B.length
  · have e1 : B = B.take at' ++ B[at'] :: B.drop (at' + 1) := by
      rw [List.getElem_cons_drop, List.take_append_drop]
    have eT : (rawB f).take at' = B.take at' := by rw [hr]; exact List.take_append_of_le_length (by omega)
    have eD : (rawB f).drop (at' + 1) = B.drop (at' + 1) ++ sumB B := by rw [hr]; exact List.drop_append_of_le_length (by omega)
    have eC : c = (B.take at' ++ v :: B.drop (at' + 1)) ++ sumB B := by rw [← hc, eT, eD]; simp
    have hDl : (B.take at' ++ v :: B.drop (at' + 1)).length = B.length := by
      simp only [List.length_append, List.length_take, List.length_cons, List.length_drop]; omega
    have e2 : c.take B.length = B.take at' ++ v :: B.drop (at' + 1) := by rw [eC]; exact List.take_left' hDl
    have e3 : c.drop B.length = sumB B := by rw [eC]; exact List.drop_left' hDl
    rw [e2, e3] at h
    have h5 := sumB_inj h
    conv at h5 => rhs; rw [e1]
    have h6 := sumOf_other h5
    apply hv
    simp only [hr, List.getElem_append_left hlt]
    exact h6.symm
  · have hge : B.length ≤ at' := by omega
    have eT : (rawB f).take at' = B ++ (sumB B).take (at' - B.length) := by rw [hr, List.take_append, List.take_of_length_le hge]
    have e2 : c.take B.length = B := by
      rw [← hc, eT, List.append_assoc]
      exact List.take_left' rfl
    rw [e2] at h
    have e4 : c = B ++ c.drop B.length := by
      conv => lhs; rw [← List.take_append_drop B.length c, e2]
    rw [← h, ← hr] at e4
    have hlt' : at' < c.length := by omega
    have e5 : c[at'] = v := by
      have ht : ((rawB f).take at').length = at' := by rw [List.length_take]; omega
      have : (((rawB f).take at') ++ v :: (rawB f).drop (at' + 1))[at']? = some v := by
        rw [List.getElem?_append_right (by omega), ht]; simp
      rw [hc] at this
      exact (List.getElem?_eq_some_iff.1 this).2
    apply hv
    rw [← e5]
    simp only [e4]
end Go.Ab.Seat
/- The law ImageBent. -/
namespace Go.Ab
theorem call_closed {P : Program} {pol : Pol} {f : FuncId} {n : Nat} {S : Sto} (hf : pol.free f = true) (h : (runFn P (handler P pol n) n pol f .none [] { heap := [], next := 0 }).map (fun r => r.1.isTrue) = some true) :
    (handler P pol (n + 1)).call (.func f) [] S = some (.ret (.bool true), S) := by
  simp only [handler, hf, if_true]
  cases hr : runFn P (handler P pol n) n pol f .none [] { heap := [], next := 0 } with
  | none => rw [hr] at h; cases h
  | some r =>
    obtain ⟨e, p, S'⟩ := r
    rw [hr] at h
    simp only [Option.map_some, Option.some.injEq] at h
    cases e with
    | pan ch => cases h
    | ret v =>
      cases v with
      | bool b =>
        cases b with
        | false => cases h
        | true => rfl
      | _ => cases h
end Go.Ab
namespace Go.Ab.Seat
open Go.Proofs
set_option maxRecDepth 100000
set_option maxHeartbeats 1000000
variable {H : Handler} {N : Nat} {S : Sto}
theorem few_call (f : FileV) (hN : 200 < N) : (handler Try.prog ppol N).call (.func 8) [.agg (fileC f)] S = some (.ret (.bool (fewOf f)), S) := by
  obtain ⟨n, rfl⟩ : ∃ n, N = n + 1 := ⟨N - 1, by omega⟩
  rw [call_func (by rfl), few_run f (by omega)]; rfl
theorem num_call (e : Int) (hN : 200 < N) : (handler Try.prog ppol N).call (.func 11) [.int .i64 e] S = some (.ret (.int .i64 e), S) := by
  obtain ⟨n, rfl⟩ : ∃ n, N = n + 1 := ⟨N - 1, by omega⟩
  rw [call_func (by rfl), num_run]; rfl
theorem works_runN {n : Nat} (hn : 60 ≤ n) : (runFn Try.prog (handler Try.prog ppol n) n ppol 9 .none [] { heap := [], next := 0 }).map (fun r => r.1.isTrue) = some true := by
  obtain ⟨m, rfl⟩ : ∃ m, n = m + 60 := ⟨n - 60, by omega⟩
  exact works_run m
theorem works_call (hN : 200 < N) : (handler Try.prog ppol N).call (.func 9) [] S = some (.ret (.bool true), S) := by
  obtain ⟨n, rfl⟩ : ∃ n, N = n + 1 := ⟨N - 1, by omega⟩
  exact call_closed (free_yes rfl) (works_runN (by omega))
theorem raw_callN (f : FileV) (h : Small f 6500) (hN : 2 ^ 20 + 200 < N) (hk : SOK S) : ∃ S', (handler Try.prog ppol N).call (.func 10) [.agg (fileC f)] S = some (.ret (rawV f), S') ∧ Grew [] S S' := by
  obtain ⟨n, rfl⟩ : ∃ n, N = n + 11 := ⟨N - 11, by omega⟩
  exact raw_call f (h.up (by omega)) (by omega) hk
theorem read_callN (bs : List UInt8) (hb : bs.length < 2 ^ 20) (hN : 2 ^ 20 + 200 < N) (hk : SOK S) : ∃ S', (handler Try.prog ppol N).call (.func 12) [.sl false 1 (bs.map byteRow)] S = some (.ret (readV bs), S') ∧ Grew [] S S' := by
  obtain ⟨n, rfl⟩ : ∃ n, N = n + 11 := ⟨N - 11, by omega⟩
  exact read_call bs hb (by omega) hk
theorem same_nil (hN : 200 < N) : (handler Try.prog ppol N).call (.func 13) [.agg [.nilsl, .nilsl], .agg [.nilsl, .nilsl]] S = some (.ret (.bool true), S) := by
  obtain ⟨n, rfl⟩ : ∃ n, N = n + 2 := ⟨N - 2, by omega⟩
  rw [call_func (by rfl), runFn_eq Try.func13 (by rfl)]
  simp [Try.f13, lenA]
  rw [loop_step]
  simp [lenA]
  rw [loop_step]
  simp [lenA]
theorem few_small {f : FileV} {n : Nat} (h : fewOf f = true) (hn : 6400 < n) : Small f n := by
  unfold fewOf at h
  simp only [Bool.and_eq_true, decide_eq_true_eq, List.all_eq_true] at h
  obtain ⟨⟨⟨h1, h2⟩, h3⟩, -⟩ := h
  refine ⟨by omega, by omega, fun s hs => ?_, hn⟩
  rw [List.take_of_length_le (by omega)] at h1
  have := h1 s hs
  omega
theorem ok_small {f : FileV} {n : Nat} (h : rightOk f = true) (hn : 6400 < n) : Small f n := by
  obtain ⟨h1, h2⟩ := rightOk_sizes h
  refine ⟨by omega, by omega, fun s hs => ?_, hn⟩
  obtain ⟨i, hi⟩ := List.mem_iff_getElem?.1 hs
  have := nameOk_len (namesOk_at (rightOk_names h) hi).name
  omega
theorem rawB_len {f : FileV} (h : rightOk f = true) : (rawB f).length < 2 ^ 20 := by
  obtain ⟨h1, h2⟩ := rightOk_sizes h
  have q1 := partsB_len (rightOk_parts h) (ol f.parts).length
  have q2 := symsB_len (rightOk_names h) (ol f.names).length
  rw [List.take_of_length_le (Nat.le_refl _)] at q1 q2
  have q3 := numB_len (ol f.parts).length
  have q4 := numB_len (ol f.names).length
  have q5 : markB.length = 4 := rfl
  have q6 : (sumB (bodyB f)).length = 4 := rfl
  unfold rawB
  rw [List.length_append, q6]
  unfold bodyB headB
  simp only [List.length_append]
  omega
theorem build25 : buildA Try.prog 25 [] = some (.agg [.nilsl, .nilsl]) := by kernel_rfl
theorem bent_run (f : FileV) (at' by' : Int) (hm : 2 ^ 20 + 200 < N) (hk : SOK S) :
    ∃ S', runFn Try.prog (handler Try.prog ppol N) N ppol 3 .none [.agg (fileC f), .int .i64 at', .int .i64 by'] S = some (.ret (.bool true), .none, S') := by
  have cw := fun S => works_call (N := N) (S := S) (by omega)
  have cn := fun S e => num_call (N := N) (S := S) e (by omega)
  have cf := few_call (N := N) (S := S) f (by omega)
  rw [runFn_eq Try.func3 (by rfl)]
  cases hfew : fewOf f <;> rw [hfew] at cf
  · refine ⟨S, ?_⟩
    simp [Try.f3, cf, cw]
  by_cases b0 : by' = 0
  · refine ⟨S, ?_⟩
    simp [Try.f3, cf, cw, b0]
  have b0' : (by' == 0) = false := by rw [beq_eq_false_iff_ne]; exact b0
  by_cases b1 : by' < -1
  · refine ⟨S, ?_⟩
    simp [Try.f3, cf, cw, b0', b1]
  by_cases b2 : 255 < by'
  · refine ⟨S, ?_⟩
    simp [Try.f3, cf, cw, b0', b1, b2]
  obtain ⟨S1, cr, hg1⟩ := raw_callN (N := N) (S := S) f (few_small hfew (by omega)) hm hk
  unfold rawV at cr
  have hk1 := hg1.sok hk
  cases hok : rightOk f
  · rw [hok] at cr
    refine ⟨S1, ?_⟩
    simp at cr
    simp [Try.f3, cf, cw, b0', b1, b2, cr, cn]
  rw [if_pos hok] at cr
  by_cases a0 : at' < 0
  · refine ⟨S1, ?_⟩
    simp [Try.f3, cf, cw, b0', b1, b2, cr, cn, a0]
  have hlen := rawB_len hok
  by_cases a1 : ((rawB f).length : Int) ≤ at'
  · refine ⟨S1, ?_⟩
    simp [Try.f3, cf, cw, b0', b1, b2, cr, cn, a0, a1, lenA]
  obtain ⟨k, rfl⟩ : ∃ k : Nat, at' = k := ⟨at'.toNat, by omega⟩
  have hkl : k < (rawB f).length := by omega
  obtain ⟨B, hB⟩ : ∃ B, rawB f = B := ⟨_, rfl⟩
  rw [hB] at cr hlen a1 hkl
  have es : ∀ o, sliceA Try.prog 28 (.sl o 1 (B.map byteRow)) none (some (.int .i64 k)) none = some (.sl (o && (k == B.length)) 1 ((B.take k).map byteRow)) := fun o => by
    have := slice_hi (P := Try.prog) (own := o) (es := 1) (rows := B.map byteRow) (k := k) (kk := .i64) Try.underlying28 tycells5 (by simp; omega)
    rw [this, ← List.map_take]; simp
  have happ0 := fun st o => app_sl (st := st) (o := o) (rows := []) (more := (B.take k).map byteRow) (by simp) (by simp; omega)
  simp only [List.nil_append] at happ0
  by_cases bp : 0 < by'
  · obtain ⟨b, hb⟩ : ∃ b, B[k] = b := ⟨_, rfl⟩
    have hbl := b.toNat_lt
    have wb : IntKind.u8.wrap by' = by' := Go.IntWalk.u8_in _ (by omega)
    obtain ⟨v, hv⟩ : ∃ v, byteAt ((b.toNat : Int) + by') = v := ⟨_, rfl⟩
    have hvr : byteRow v = [.int .u8 (IntKind.u8.wrap ((b.toNat : Int) + by'))] := by rw [← hv]; exact byteAt_row _
    have hne : B[k] ≠ v := by
      rw [hb, ← hv]
      intro e
      have := byteAt_val ((b.toNat : Int) + by')
      rw [← e] at this
      omega
    have hbent := bent (f := f) (at' := k) (v := v) (by rw [hB]; exact hkl) (by simp only [hB]; exact hne)
    rw [hB] at hbent
    obtain ⟨c, hc⟩ : ∃ c, B.take k ++ v :: B.drop (k + 1) = c := ⟨_, rfl⟩
    rw [hc] at hbent
    have hcl : c.length < 2 ^ 20 := by
      rw [← hc]; simp only [List.length_append, List.length_take, List.length_cons, List.length_drop]; omega
    obtain ⟨S2, cd, hg2⟩ := read_callN (N := N) (S := S1) c hcl hm hk1
    have hcV : readV c = .tup [.agg [.nilsl, .nilsl], .int .i64 312] := by
      unfold readV
      rw [hbent, Bool.and_false]; rfl
    rw [hcV] at cd
    have hix : ∀ o, indexAddrA Try.prog 28 (.sl o 1 (B.map byteRow)) (.int .i64 k) = some (.fptr [.int .u8 b.toNat]) := fun o => by
      simp [indexAddrA, hkl, hb, byteRow]
    have happ1 := fun st o => app_one (st := st) (o := o) (rows := (B.take k).map byteRow) (r := [.int .u8 (IntKind.u8.wrap ((b.toNat : Int) + by'))]) (by simp; omega)
    have w1 : IntKind.i64.wrap ((k : Int) + 1) = (k : Int) + 1 := wrap_succ hkl (by omega)
    have es2 : ∀ o, sliceA Try.prog 28 (.sl o 1 (B.map byteRow)) (some (.int .i64 ((k : Int) + 1))) none none = some (.sl o 1 ((B.drop (k + 1)).map byteRow)) := fun o => by
      have := slice_lo (P := Try.prog) (own := o) (es := 1) (rows := B.map byteRow) (k := k + 1) (kk := .i64) Try.underlying28 tycells5 (by simp; omega)
      rw [List.map_drop]; exact this
    have happ2 := fun st o => app_sl (st := st) (o := o) (rows := (B.take k).map byteRow ++ [[.int .u8 (IntKind.u8.wrap ((b.toNat : Int) + by'))]]) (more := (B.drop (k + 1)).map byteRow) (by simp; omega) (by simp; omega)
    have hcr : (B.take k).map byteRow ++ [[.int .u8 (IntKind.u8.wrap ((b.toNat : Int) + by'))]] ++ (B.drop (k + 1)).map byteRow = c.map byteRow := by
      rw [← hc, ← hvr]; simp
    rw [hcr] at happ2
    have b3 : ¬ by' < 0 := by omega
    have csame := same_nil (N := N) (S := S2) (by omega)
    refine ⟨S2, ?_⟩
    simp [Try.f3, cf, b0', b1, b2, cr, cn, a0, a1, lenA, buildSliceA, fillRows, es, happ0, bp, -List.map_take, -List.map_drop, -List.map_append, -List.append_assoc]
    rw [evDraw_go]
    · simp [hix, convA, wb, buildSliceA, fillRows, happ1, w1, es2, happ2, cd, cn, csame, cw, build25, writeCells, -List.map_take, -List.map_drop, -List.map_append, -List.append_assoc]
    · kernel_rfl
  · have b3 : by' < 0 := by omega
    obtain ⟨c, hc⟩ : ∃ c, B.take k = c := ⟨_, rfl⟩
    have hcl : c.length < 2 ^ 20 := by rw [← hc, List.length_take]; omega
    rw [hc] at happ0 es
    obtain ⟨S2, cd, hg2⟩ := read_callN (N := N) (S := S1) c hcl hm hk1
    have csame := same_nil (N := N) (S := S2) (by omega)
    have hcs := fun o => conv_str o c
    unfold readV at cd
    cases hms : (markOk c && sumOk c)
    · rw [hms] at cd
      simp only [Bool.false_eq_true, if_false] at cd
      refine ⟨S2, ?_⟩
      simp [Try.f3, cf, cw, b0', b1, b2, cr, cn, a0, a1, lenA, buildSliceA, fillRows, es, happ0, bp, cd, csame, build25, writeCells, -List.map_take]
    · rw [hms, if_pos rfl] at cd
      cases hrb : readBody ((c.take (c.length - 4)).drop 4) with
      | none =>
        rw [hrb] at cd
        refine ⟨S2, ?_⟩
        simp only at cd
        simp [Try.f3, cf, cw, b0', b1, b2, cr, cn, a0, a1, lenA, buildSliceA, fillRows, es, happ0, bp, b3, cd, csame, build25, writeCells, -List.map_take]
      | some g =>
        rw [hrb] at cd
        simp only [Bool.and_eq_true] at cd hms
        obtain ⟨hg1, hg2'⟩ := read_back hms.1 hms.2 hrb
        obtain ⟨S3, cg, hg3⟩ := raw_callN (N := N) (S := S2) g (ok_small hg1 (by omega)) hm (hg2.sok hk1)
        unfold rawV at cg
        rw [if_pos hg1, hg2'] at cg
        refine ⟨S3, ?_⟩
        simp [Try.f3, cf, cw, b0', b1, b2, cr, cn, a0, a1, lenA, buildSliceA, fillRows, es, happ0, bp, b3, cd, cg, hcs, writeCells, -List.map_take]
end Go.Ab.Seat
/- The row of ImageBent. -/
namespace Go.Ab
open Go.ChangeShapes Go.RowKit
section
variable {H : Type} {enc : TypeId × Value → H} {P : Program} {W : World}
theorem Reads.map {t : TypeId} {X Y : Type} {g : X → List AV} {g' : Y → List AV} {p : X → Prop} {p' : Y → Prop} (hr : Reads P enc W t X g p) (c : X → Y) (h : ∀ x, p x → g x = g' (c x) ∧ p' (c x)) : Reads P enc W t Y g' p' := by
  intro fuel cs x hx
  obtain ⟨y, h1, h2, h3⟩ := hr fuel cs x hx
  obtain ⟨k1, k2⟩ := h y h1
  exact ⟨c y, k2, k1 ▸ h2, h3⟩
theorem reads_two {t : TypeId} {f0 f1 : Field} {X Y : Type} {g : X → List AV} {g' : Y → List AV} {p : X → Prop} {p' : Y → Prop} (ht : P.underlying t = some (.struct #[f0, f1])) (h0 : Reads P enc W f0.type X g p) (o0 : f0.offset = 0) (c0 : P.cellsOf f0.type = 1)
    (h1 : Reads P enc W f1.type Y g' p') (o1 : f1.offset = 1) (c1 : P.cellsOf f1.type = 1) (c : P.cellsOf t = 2) : Reads P enc W t (X × Y) (fun z => g z.1 ++ g' z.2) (fun z => p z.1 ∧ p' z.2) := by
  have n : ReadsFields P enc W [] (0 + P.cellsOf f0.type + P.cellsOf f1.type) Unit (fun _ => []) (fun _ => True) (P.cellsOf t) := by
    rw [c0, c1, c]; exact fields_nil
  have s1 := fields_cons (off := 0 + P.cellsOf f0.type) h1 (by rw [o1, c0]) (by rw [c0, c1, c]; omega) n
  have s0 := fields_cons (off := 0) h0 o0 (by rw [c0, c]; omega) s1
  have := reads_struct ht s0
  exact this.map (fun z => (z.1, z.2.1)) fun z hz => ⟨by simp, hz.1, hz.2.1⟩
end
end Go.Ab
namespace Go.Ab.Seat
open Go.Proofs Go.ChangeShapes Go.RowKit
set_option maxRecDepth 100000
section
variable {H : Type} {enc : TypeId × Value → H} {W : World}
theorem reads_byte : Reads Try.prog enc W 5 UInt8 byteRow (fun _ => True) :=
  (reads_int Try.underlying5).map (fun n => UInt8.ofNat n.toNat) fun n hn => by
    have : 0 ≤ n ∧ n ≤ 255 := by simpa [Lit.wf, IntKind.min, IntKind.max, IntKind.signed, IntKind.bits] using hn
    refine ⟨?_, trivial⟩
    rw [byteRow_of _ (by omega), Int.toNat_of_nonneg this.1]
theorem reads_bytes : Reads Try.prog enc W 28 (Option (List UInt8)) (fun o => [sv false 1 byteRow o]) (fun _ => True) :=
  (reads_slice Try.underlying28 (by rw [tycells5]; omega) reads_byte).map id fun o _ => ⟨by rw [slA_sv, tycells5]; rfl, trivial⟩
theorem reads_i64 : Reads Try.prog enc W 3 Int (fun n => [.int .i64 n]) (fun n => (Lit.int .i64 n).wf = true) := reads_int Try.underlying3
theorem reads_part : Reads Try.prog enc W 45 PartV partRow (fun _ => True) :=
  (reads_two Try.underlying45 reads_i64 rfl tycells3 reads_bytes rfl tycells28 tycells45).map (fun z => ⟨z.1, z.2⟩) fun _ _ => ⟨rfl, trivial⟩
theorem reads_str : Reads Try.prog enc W 9 (List UInt8) (fun s => [.str s]) (fun s => s.length ≤ maxLen) := reads_string Try.underlying9
theorem reads_sym : Reads Try.prog enc W 64 SymV symRow (fun _ => True) :=
  (reads_two Try.underlying64 reads_str rfl tycells9 reads_i64 rfl tycells3 tycells64).map (fun z => ⟨z.1, z.2⟩) fun _ _ => ⟨rfl, trivial⟩
theorem reads_parts : Reads Try.prog enc W 22 (Option (List PartV)) (fun o => [sv false 2 partRow o]) (fun _ => True) :=
  (reads_slice Try.underlying22 (by rw [tycells45]; omega) reads_part).map id fun o _ => ⟨by rw [slA_sv, tycells45]; rfl, trivial⟩
theorem reads_syms : Reads Try.prog enc W 23 (Option (List SymV)) (fun o => [sv false 2 symRow o]) (fun _ => True) :=
  (reads_slice Try.underlying23 (by rw [tycells64]; omega) reads_sym).map id fun o _ => ⟨by rw [slA_sv, tycells64]; rfl, trivial⟩
theorem reads_file : Reads Try.prog enc W 25 FileV fileC (fun _ => True) :=
  (reads_two Try.underlying25 reads_parts rfl tycells22 reads_syms rfl tycells23 tycells25).map (fun z => ⟨z.1, z.2⟩) fun _ _ => ⟨rfl, trivial⟩
end
end Go.Ab.Seat
namespace Go.Proofs.Ytooahmehpnbfgaa
open Go.Ab Go.Ab.Seat Go.ChangeShapes Go.WideShapes Go.ChangeAt Go.RowKit
theorem seatOwn : ownKnob Try.prog.godebug = none := by kernel_rfl
theorem seatLaid : laidOutB Try.prog = true := by kernel_rfl
set_option maxRecDepth 100000 in
theorem imageBent_lifted (os : Os) (started : os.Started) (H : Type) (enc : TypeId × Value → H) :
    ReturnsInHanded {} Try.checked os 3 .any (Rows.imageBentSpec.pre6 enc Try.prog Try.f3 Rows.imageBentRow.domain false) (Rows.imageBentSpec.post enc Try.prog Try.f3 false true false false) := by
  refine lifted_of_ev (C := Try.checked) (rt := 4) started seatOwn (by kernel_rfl) Try.func3
    (ChangeSpec.witness6 (enc := enc) (C := Try.checked) false ⟨#[], #[.agg #[.slice none 0 0, .slice none 0 0], .int .i64 0, .int .i64 0], []⟩ 8 (by kernel_rfl) (by kernel_rfl) (by kernel_rfl) (by kernel_rfl))
    fine seatLaid ?_ ?_ ?_ ?_ ppol ?_
  · intro t ht
    rw [show Try.f3.params.toList = [25, 3, 3] from rfl] at ht
    simp only [List.mem_cons, List.not_mem_nil, or_false] at ht
    rcases ht with rfl | rfl | rfl
    · exact ⟨by kernel_rfl, of_decide_eq_true (by kernel_rfl)⟩
    · exact ⟨by kernel_rfl, of_decide_eq_true (by kernel_rfl)⟩
    · exact ⟨by kernel_rfl, of_decide_eq_true (by kernel_rfl)⟩
  · rfl
  · exact Try.underlying4
  · refine ⟨rfl, fun H ds hds => ?_⟩
    match ds, hds with
    | [d1, d2, d3], _ => exact ⟨rfl, rfl, rfl⟩
  · intro W args ds ps hval hA
    obtain ⟨base, hval⟩ := hval
    have hA : DataW.TrodAll enc Try.prog W 0 (fun _ => true) true [25, 3, 3] args ds ps := hA
    obtain ⟨v0, vs0, d0, ds0, p0, q0, rfl, rfl, rfl, h0, r0⟩ := trodAll_cons hA
    obtain ⟨v1, vs1, d1, ds1, p1, q1, rfl, rfl, rfl, h1, r1⟩ := trodAll_cons r0
    obtain ⟨v2, vs2, d2, ds2, p2, q2, rfl, rfl, rfl, h2, r2⟩ := trodAll_cons r1
    obtain ⟨rfl, rfl, rfl⟩ := trodAll_nil r2
    obtain ⟨cs, rfl, -⟩ := okWide_struct Try.underlying25 (hval 0 25 v0 rfl rfl)
    obtain ⟨n1, rfl⟩ := okWide_int Try.underlying3 (hval 1 3 v1 rfl rfl)
    obtain ⟨n2, rfl⟩ := okWide_int Try.underlying3 (hval 2 3 v2 rfl rfl)
    obtain ⟨f, -, k0⟩ := arg_agg reads_file h0
    have k1 : ListRel (ctx0 W) [.int .i64 n1] none 0 [.int .i64 n1] := one_rel rfl (by simp only [VRel])
    have k2 : ListRel (ctx0 W) [.int .i64 n2] none 0 [.int .i64 n2] := one_rel rfl (by simp only [VRel])
    refine ⟨[.agg (fileC f), .int .i64 n1, .int .i64 n2], ?_, 2 ^ 20 + 201, ?_⟩
    · exact (k0.append (ListRel.any _ none 0 _ _ (k1.append (ListRel.any _ none 0 _ _ k2))))
    · obtain ⟨S', e⟩ := bent_run (N := 2 ^ 20 + 201) (S := { heap := [], next := 0 }) f n1 n2 (by omega) (SOK.nil 0)
      exact ⟨_, S', e⟩
theorem imageBent_holds : Rows.ImageBentSaid :=
  OpenClaim.holds_of_wide 3 Try.f3 rfl rfl rfl rfl rfl rfl rfl ⟨rfl, rfl, rfl, rfl, rfl⟩ rfl rfl rfl rfl rfl (by kernel_rfl) Try.func3 (by kernel_rfl)
    (of_decide_eq_true (by kernel_rfl)) (by unfold Func.isWrapper; first | (rw [if_pos (by decide +kernel)]; kernel_rfl) | (rw [if_neg (by decide +kernel)]; exact ⟨rfl, rfl⟩))
    (fun os started H enc _ => imageBent_lifted os started H enc)
#print axioms imageBent_holds
end Go.Proofs.Ytooahmehpnbfgaa
