/- Joining image files in the program answers as joining them in the document does, whatever the two files (pomanderlaw21.ImageJoins). No conditions. -/
import Derived.Test.YtooahmehpnbfgaaP06
namespace Go.Ab.Seat
open Go.Proofs
set_option maxRecDepth 100000
set_option maxHeartbeats 1000000
variable {H : Handler} {N : Nat} {S : Sto}
def opN (k : Nat) : List UInt8 := (rowsL[k]?.map (·.1)).getD []
theorem opName_run : ∀ k : Nat, k < 28 → runFn Try.prog H N ppol 96 .none [.int .i64 ((k : Int) + 1)] S = some (.ret (.str (opN (k + 1))), .none, S)
 | 0, _ => by kernel_rfl
 | 1, _ => by kernel_rfl
 | 2, _ => by kernel_rfl
 | 3, _ => by kernel_rfl
 | 4, _ => by kernel_rfl
 | 5, _ => by kernel_rfl
 | 6, _ => by kernel_rfl
 | 7, _ => by kernel_rfl
 | 8, _ => by kernel_rfl
 | 9, _ => by kernel_rfl
 | 10, _ => by kernel_rfl
 | 11, _ => by kernel_rfl
 | 12, _ => by kernel_rfl
 | 13, _ => by kernel_rfl
 | 14, _ => by kernel_rfl
 | 15, _ => by kernel_rfl
 | 16, _ => by kernel_rfl
 | 17, _ => by kernel_rfl
 | 18, _ => by kernel_rfl
 | 19, _ => by kernel_rfl
 | 20, _ => by kernel_rfl
 | 21, _ => by kernel_rfl
 | 22, _ => by kernel_rfl
 | 23, _ => by kernel_rfl
 | 24, _ => by kernel_rfl
 | 25, _ => by kernel_rfl
 | 26, _ => by kernel_rfl
 | 27, _ => by kernel_rfl
 | k + 28, h => absurd h (by omega)
theorem opName_call {n : Nat} {k : Nat} (h : k < 28) : (handler Try.prog ppol (n + 1)).call (.func 96) [.int .i64 ((k : Int) + 1)] S = some (.ret (.str (opN (k + 1))), S) := by
 rw [call_func (by rfl), opName_run k h]; rfl
theorem isNum_iff (s : List UInt8) : isNum s = true ↔ ∃ k, k < 28 ∧ opN (k + 1) = s := by
 have hlen : rowsL.length = 29 := rfl
 unfold isNum
 rw [List.any_eq_true]
 constructor
 ·rintro ⟨r, hr, he⟩
  obtain ⟨i, hi⟩ := List.mem_iff_getElem?.1 hr
  rw [List.getElem?_drop] at hi
  have hlt := (List.getElem?_eq_some_iff.1 hi).1
  refine ⟨i, by omega, ?_⟩
  unfold opN
  rw [Nat.add_comm i 1, hi]
  simpa using he
 ·rintro ⟨k, hk, he⟩
  have hlt : k + 1 < rowsL.length := by omega
  refine ⟨rowsL[k + 1], ?_, ?_⟩
  ·exact List.mem_iff_getElem?.2 ⟨k, by rw [List.getElem?_drop, Nat.add_comm 1 k]; exact List.getElem?_eq_getElem hlt⟩
  ·unfold opN at he
   rw [List.getElem?_eq_getElem hlt] at he
   simpa using he
theorem opOf_run {n : Nat} (s : List UInt8) (hN : 29 < N) : ∃ r : Int, runFn Try.prog (handler Try.prog ppol (n + 1)) N ppol 79 .none [.str s] S = some (.ret (.int .i64 r), .none, S) ∧ (0 < r ↔ isNum s = true) := by
 rcases first_or_all (fun k => opN (k + 1) = s) 28 with ⟨m, h1, h2, h3⟩ | h
 ·refine ⟨(m : Int) + 1, ?_, ?_⟩
  ·rw [runFn_eq Try.func79 (by rfl)]
   simp [Try.f79]
   rw [loop_go (fun k => { env := envOf 13 [(0, .str s), (3, .int .i64 ((k : Int) + 1))], defs := [], par := .none, S := S }) m (by omega)]
   ·have e1 : (m : Int) + 1 ≤ 28 := by omega
    have c := opName_call (n := n) (S := S) h1
    rw [h2] at c
    simp [e1, c]
   ·simp
   ·intro k hk
    have e1 : (k : Int) + 1 ≤ 28 := by omega
    have c := opName_call (n := n) (S := S) (k := k) (by omega)
    have hne : (opN (k + 1) == s) = false := by rw [beq_eq_false_iff_ne]; exact h3 k hk
    have w : IntKind.i64.wrap ((k : Int) + 1 + 1) = (k : Int) + 1 + 1 := Go.IntWalk.i64_in _ (by omega)
    simp [e1, c, hne, w]
  ·constructor
   ·intro _; exact (isNum_iff s).2 ⟨m, h1, h2⟩
   ·intro _; omega
 ·refine ⟨0, ?_, ?_⟩
  ·rw [runFn_eq Try.func79 (by rfl)]
   simp [Try.f79]
   rw [loop_go (fun k => { env := envOf 13 [(0, .str s), (3, .int .i64 ((k : Int) + 1))], defs := [], par := .none, S := S }) 28 (by omega)]
   ·simp
   ·simp
   ·intro k hk
    have e1 : (k : Int) + 1 ≤ 28 := by omega
    have c := opName_call (n := n) (S := S) (k := k) (by omega)
    have hne : (opN (k + 1) == s) = false := by rw [beq_eq_false_iff_ne]; exact h k hk
    have w : IntKind.i64.wrap ((k : Int) + 1 + 1) = (k : Int) + 1 + 1 := Go.IntWalk.i64_in _ (by omega)
    simp [e1, c, hne, w]
  ·constructor
   ·intro h0; omega
   ·intro hn
    obtain ⟨k, hk, he⟩ := (isNum_iff s).1 hn
    exact absurd he (h k hk)
def lowB (b : UInt8) : Bool := decide (97 ≤ b.toNat) && decide (b.toNat ≤ 122)
def digB (b : UInt8) : Bool := decide (48 ≤ b.toNat) && decide (b.toNat ≤ 57)
theorem letter_run (b : UInt8) : runFn Try.prog H N ppol 78 .none [.int .u8 b.toNat] S = some (.ret (.bool (lowB b)), .none, S) := by
 rw [runFn_eq Try.func78 (by rfl)]
 unfold lowB
 have e1 : ((97 : Int) ≤ b.toNat) = (97 ≤ b.toNat) := by rw [eq_iff_iff]; omega
 have e2 : ((b.toNat : Int) ≤ 122) = (b.toNat ≤ 122) := by rw [eq_iff_iff]; omega
 by_cases h1 : 97 ≤ b.toNat <;> by_cases h2 : b.toNat ≤ 122 <;> simp [Try.f78, e1, e2, h1, h2]
theorem letter_call {n : Nat} (b : UInt8) : (handler Try.prog ppol (n + 1)).call (.func 78) [.int .u8 b.toNat] S = some (.ret (.bool (lowB b)), S) := by
 rw [call_func (by rfl), letter_run]; rfl
theorem digit_run (b : UInt8) : runFn Try.prog H N ppol 81 .none [.int .u8 b.toNat] S = some (.ret (.bool (digB b)), .none, S) := by
 rw [runFn_eq Try.func81 (by rfl)]
 unfold digB
 have e1 : ((48 : Int) ≤ b.toNat) = (48 ≤ b.toNat) := by rw [eq_iff_iff]; omega
 have e2 : ((b.toNat : Int) ≤ 57) = (b.toNat ≤ 57) := by rw [eq_iff_iff]; omega
 by_cases h1 : 48 ≤ b.toNat <;> by_cases h2 : b.toNat ≤ 57 <;> simp [Try.f81, e1, e2, h1, h2]
theorem digit_call {n : Nat} (b : UInt8) : (handler Try.prog ppol (n + 1)).call (.func 81) [.int .u8 b.toNat] S = some (.ret (.bool (digB b)), S) := by
 rw [call_func (by rfl), digit_run]; rfl
theorem regR_run (s : List UInt8) (hs : s.length < 2 ^ 62) : runFn Try.prog H N ppol 80 .none [.str s] S = some (.ret (.int .i64 (regOf s)), .none, S) := by
 rw [runFn_eq Try.func80 (by rfl)]
 by_cases h2 : s.length = 2
 ·obtain ⟨a, b, rfl⟩ : ∃ a b, s = [a, b] := by
   match s, h2 with
   | [a, b], _ => exact ⟨a, b, rfl⟩
  have hb := b.toNat_lt
  by_cases h3 : a.toNat = 114
  ·have e3 : ((a.toNat : Int) == 114) = true := by rw [beq_iff_eq]; omega
   by_cases h4 : b.toNat < 48
   ·have e4 : ¬ (48 : Int) ≤ b.toNat := by omega
    simp [Try.f80, indexA, e4, regOf, h3]; omega
   ·have e4 : (48 : Int) ≤ b.toNat := by omega
    by_cases h5 : 55 < b.toNat
    ·have e5 : ¬ (b.toNat : Int) ≤ 55 := by omega
     simp [Try.f80, indexA, e4, e5, regOf, h3]; omega
    ·have e5 : (b.toNat : Int) ≤ 55 := by omega
     have e6 : IntKind.u8.wrap ((b.toNat : Int) - 48) = (b.toNat : Int) - 48 := Go.IntWalk.u8_in _ (by omega)
     have e7 : IntKind.i64.wrap ((b.toNat : Int) - 48) = (b.toNat : Int) - 48 := Go.IntWalk.i64_in _ (by omega)
     simp [Try.f80, indexA, e4, e5, e6, e7, convA, regOf, h3]; omega
  ·have e3 : ((a.toNat : Int) == 114) = false := by rw [beq_eq_false_iff_ne]; omega
   simp [Try.f80, indexA, e3, regOf, h3]
 ·have e2 : ((s.length : Int) == 2) = false := by rw [beq_eq_false_iff_ne]; omega
  have : regOf s = -1 := by
   unfold regOf
   split
   ·exact absurd rfl h2
   ·rfl
  simp [Try.f80, e2, this]
theorem regR_call {n : Nat} (s : List UInt8) (hs : s.length < 2 ^ 62) : (handler Try.prog ppol (n + 1)).call (.func 80) [.str s] S = some (.ret (.int .i64 (regOf s)), S) := by
 rw [call_func (by rfl), regR_run s hs]; rfl
def bOk (b : UInt8) : Bool := lowB b || digB b
theorem odd_byte (b : UInt8) : oddOf (b.toNat : Int) = !bOk b := by
 unfold oddOf bOk lowB digB
 have hb := b.toNat_lt
 by_cases h1 : 97 ≤ b.toNat <;> by_cases h2 : b.toNat ≤ 122 <;> by_cases h3 : 48 ≤ b.toNat <;> by_cases h4 : b.toNat ≤ 57 <;> simp [h1, h2, h3, h4] <;> omega
theorem scan_all (s : ByteArray) : ∀ (n p : Nat), s.size ≤ p + n → (scanOf s n p < 0 ↔ ∀ i, p ≤ i → (h : i < s.size) → bOk (s[i]'h) = true)
 | 0, p, hn => by
  constructor
  ·intro _ i hi h; omega
  ·intro _; show (-1 : Int) < 0; omega
 | n + 1, p, hn => by
  by_cases hp : p < s.size
  ·by_cases ha : (s[p]'hp).toNat < 128
   ·have hd := decode_ascii s p hp ha
    cases hb : bOk (s[p]'hp)
    ·have ho : oddOf ((s[p]'hp).toNat : Int) = true := by rw [odd_byte, hb]; rfl
     have hs : scanOf s (n + 1) p = p := by simp [scanOf, hp, hd, ho]
     rw [hs]
     constructor
     ·intro h; omega
     ·intro h; have := h p (Nat.le_refl _) hp; rw [hb] at this; cases this
    ·have ho : oddOf ((s[p]'hp).toNat : Int) = false := by rw [odd_byte, hb]; rfl
     have hs : scanOf s (n + 1) p = scanOf s n (p + 1) := by simp [scanOf, hp, hd, ho]
     rw [hs, scan_all s n (p + 1) (by omega)]
     constructor
     ·intro h i hi hlt
      by_cases e : i = p
      ·subst e; exact hb
      ·exact h i (by omega) hlt
     ·intro h i hi hlt; exact h i (by omega) hlt
   ·have hd := (decode_high s p hp (by omega)).1
    have ho : oddOf ((Utf8.decode s p).1 : Int) = true := by
     have h1 : (122 : Int) < (Utf8.decode s p).1 := by omega
     have h2 : (57 : Int) < (Utf8.decode s p).1 := by omega
     simp [oddOf, h1, h2]
    have hs : scanOf s (n + 1) p = p := by simp [scanOf, hp, ho]
    rw [hs]
    constructor
    ·intro h; omega
    ·intro h
     have := h p (Nat.le_refl _) hp
     unfold bOk lowB digB at this
     simp only [Bool.or_eq_true, Bool.and_eq_true, decide_eq_true_eq] at this
     omega
  ·have hs : scanOf s (n + 1) p = -1 := scan_end _ hp
   rw [hs]
   constructor
   ·intro _ i hi h; omega
   ·intro _; omega
theorem scan_str (s : List UInt8) : decide (scanOf ⟨s.toArray⟩ s.length 0 < 0) = s.all bOk := by
 have h := scan_all ⟨s.toArray⟩ s.length 0 (by simp [ByteArray.size])
 rw [Bool.eq_iff_iff, decide_eq_true_iff, h, List.all_eq_true]
 constructor
 ·intro h b hb
  obtain ⟨i, hi, rfl⟩ := List.mem_iff_getElem.1 hb
  exact h i (by omega) (by simpa [ByteArray.size] using hi)
 ·intro h i _ hi
  exact h _ (by show s.toArray[i]'(by simpa [ByteArray.size] using hi) ∈ s; simp)
end Go.Ab.Seat
namespace Go.Ab.Seat
open Go.Proofs
set_option maxRecDepth 100000
set_option maxHeartbeats 1000000
variable {H : Handler} {N : Nat} {S : Sto}
theorem opOf_call {n : Nat} (s : List UInt8) (hn : 30 < n) : ∃ r : Int, (handler Try.prog ppol (n + 2)).call (.func 79) [.str s] S = some (.ret (.int .i64 r), S) ∧ (0 < r ↔ isNum s = true) := by
 obtain ⟨r, h1, h2⟩ := opOf_run (n := n) (N := n + 1) (S := S) s (by omega)
 exact ⟨r, by rw [call_func (by rfl), h1]; rfl, h2⟩
theorem index_str {s : List UInt8} {k : Nat} {b : UInt8} (h : s[k]? = some b) : indexA Try.prog 9 (.str s) (.int .i64 k) = some (.int .u8 b.toNat) := by
 simp [indexA, h]
def wAt : List UInt8 := [97, 116]
def wWord : List UInt8 := [119, 111, 114, 100]
def wByte : List UInt8 := [98, 121, 116, 101]
def wText : List UInt8 := [116, 101, 120, 116]
def refNm (s : List UInt8) : Bool := nameA s && !isNum s && decide (regOf s < 0) && !(s == wAt) && !(s == wWord) && !(s == wByte) && !(s == wText) && s.all bOk
theorem refNm_eq (s : List UInt8) : refNm s = nameOk s := by
 unfold refNm nameOk nameB
 rw [scan_str]
 have e : decide (s ∈ wordsL) = ((s == wAt) || (s == wWord) || (s == wByte) || (s == wText)) := by
  rw [Bool.eq_iff_iff]
  simp only [decide_eq_true_eq, Bool.or_eq_true, beq_iff_eq]
  show s ∈ [wAt, wWord, wByte, wText] ↔ _
  simp only [List.mem_cons, List.not_mem_nil, or_false, or_assoc]
 rw [e]
 cases nameA s <;> cases isNum s <;> cases decide (regOf s < 0) <;> cases (s == wAt) <;> cases (s == wWord) <;> cases (s == wByte) <;> cases (s == wText) <;> cases s.all bOk <;> rfl
theorem nameA_cons {s : List UInt8} {c : UInt8} (h : s[0]? = some c) : nameA s = (decide (s.length ≤ 16) && lowB c) := by
 cases s with
 | nil => cases h
 | cons d r =>
  simp only [List.getElem?_cons_zero, Option.some.injEq] at h
  subst h
  show (decide (r.length < 16) && decide (97 ≤ d.toNat) && decide (d.toNat ≤ 122)) = _
  have : decide (r.length < 16) = decide ((d :: r).length ≤ 16) := by rw [decide_eq_decide]; simp only [List.length_cons]; omega
  rw [this, Bool.and_assoc]; rfl
theorem refName_run {n : Nat} (s : List UInt8) (hs : s.length < 2 ^ 30) (hN : s.length < N) (hn : 40 < n) : runFn Try.prog (handler Try.prog ppol (n + 2)) N ppol 52 .none [.str s] S = some (.ret (.bool (refNm s)), .none, S) := by
 obtain ⟨r, cop, hr⟩ := opOf_call (n := n) (S := S) s (by omega)
 have creg := regR_call (n := n + 1) (S := S) s (by omega)
 have clet := fun b => letter_call (n := n + 1) (S := S) b
 have cdig := fun b => digit_call (n := n + 1) (S := S) b
 rw [runFn_eq Try.func52 (by rfl)]
 rcases hs0 : s[0]? with _ | c
 ·have : s = [] := by
   cases s with
   | nil => rfl
   | cons a b => cases hs0
  subst this
  simp [Try.f52, refNm, nameA]
 have hi0 := index_str hs0
 rw [show ((0 : Nat) : Int) = 0 from rfl] at hi0
 have hpos : ¬ (s.length : Int) < 1 := by have := (List.getElem?_eq_some_iff.1 hs0).1; omega
 have hA := nameA_cons hs0
 unfold refNm
 rw [hA]
 by_cases h16 : 16 < s.length
 ·have g16 : (16 : Int) < s.length := by omega
  have d16 : decide (s.length ≤ 16) = false := by rw [decide_eq_false_iff_not]; omega
  simp [Try.f52, hpos, g16, d16]
 have g16 : ¬ (16 : Int) < s.length := by omega
 have d16 : decide (s.length ≤ 16) = true := by rw [decide_eq_true_iff]; omega
 rw [d16, Bool.true_and]
 cases hl : lowB c
 ·simp [Try.f52, hpos, g16, hi0, clet, hl]
 cases hnum : isNum s
 rotate_left
 ·have hr0 : 0 < r := hr.2 hnum
  simp [Try.f52, hpos, g16, hi0, clet, hl, cop, hr0]
 have hr0 : ¬ 0 < r := fun h => by have := hr.1 h; rw [hnum] at this; cases this
 by_cases hreg : 0 ≤ regOf s
 ·have dreg : decide (regOf s < 0) = false := by rw [decide_eq_false_iff_not]; omega
  simp [Try.f52, hpos, g16, hi0, clet, hl, cop, hr0, creg, hreg, dreg]
 have dreg : decide (regOf s < 0) = true := by rw [decide_eq_true_iff]; omega
 cases w1 : (s == wAt)
 rotate_left
 ·have w1' : (s == [97, 116]) = true := w1
  simp [Try.f52, hpos, g16, hi0, clet, hl, cop, hr0, creg, hreg, w1', -beq_iff_eq]
 have w1' : (s == [97, 116]) = false := w1
 cases w2 : (s == wWord)
 rotate_left
 ·have w2' : (s == [119, 111, 114, 100]) = true := w2
  simp [Try.f52, hpos, g16, hi0, clet, hl, cop, hr0, creg, hreg, w1', w2', -beq_iff_eq]
 have w2' : (s == [119, 111, 114, 100]) = false := w2
 cases w3 : (s == wByte)
 rotate_left
 ·have w3' : (s == [98, 121, 116, 101]) = true := w3
  simp [Try.f52, hpos, g16, hi0, clet, hl, cop, hr0, creg, hreg, w1', w2', w3', -beq_iff_eq]
 have w3' : (s == [98, 121, 116, 101]) = false := w3
 cases w4 : (s == wText)
 rotate_left
 ·have w4' : (s == [116, 101, 120, 116]) = true := w4
  simp [Try.f52, hpos, g16, hi0, clet, hl, cop, hr0, creg, hreg, w1', w2', w3', w4', -beq_iff_eq]
 have w4' : (s == [116, 101, 120, 116]) = false := w4
 rw [dreg]
 simp [Try.f52, hpos, g16, hi0, clet, hl, cop, hr0, creg, hreg, w1', w2', w3', w4', -beq_iff_eq, -beq_eq_false_iff_ne]
 rcases first_or_all (fun k => ∃ b, s[k]? = some b ∧ bOk b = false) s.length with ⟨m, h1, ⟨b, h2, h4⟩, h3⟩ | h
 ·have hall : s.all bOk = false := by
   rw [List.all_eq_false]
   exact ⟨b, List.mem_of_getElem? h2, by simp [h4]⟩
  rw [loop_go (fun k => { env := envOf 62 [(0, .str s), (3, .int .i64 k)], defs := [], par := .none, S := S }) m (by omega)]
  ·have hi := index_str h2
   unfold bOk at h4
   simp only [Bool.or_eq_false_iff] at h4
   simp [h1, hi, clet, cdig, h4.1, h4.2, hall]
  ·simp
  ·intro k hk
   obtain ⟨b', hb'⟩ : ∃ b', s[k]? = some b' := ⟨_, List.getElem?_eq_getElem (by omega)⟩
   have hkl : k < s.length := by omega
   have hok : bOk b' = true := by
    cases hb : bOk b' with
    | true => rfl
    | false => exact absurd ⟨b', hb', hb⟩ (h3 k hk)
   have hi := index_str hb'
   have w : IntKind.i64.wrap ((k : Int) + 1) = (k : Int) + 1 := wrap_succ hkl (by omega)
   unfold bOk at hok
   cases l1 : lowB b' <;> rw [l1] at hok
   ·simp only [Bool.false_or] at hok
    simp [hkl, hi, clet, cdig, l1, hok, w]
   ·simp [hkl, hi, clet, l1, w]
 ·have hall : s.all bOk = true := by
   rw [List.all_eq_true]
   intro b hb
   obtain ⟨i, hi⟩ := List.mem_iff_getElem?.1 hb
   cases hbb : bOk b with
   | true => rfl
   | false => exact absurd ⟨b, hi, hbb⟩ (h i (List.getElem?_eq_some_iff.1 hi).1)
  rw [loop_go (fun k => { env := envOf 62 [(0, .str s), (3, .int .i64 k)], defs := [], par := .none, S := S }) s.length hN]
  ·simp [hall]
  ·simp
  ·intro k hkl
   obtain ⟨b', hb'⟩ : ∃ b', s[k]? = some b' := ⟨_, List.getElem?_eq_getElem (by omega)⟩
   have hok : bOk b' = true := by
    cases hb : bOk b' with
    | true => rfl
    | false => exact absurd ⟨b', hb', hb⟩ (h k hkl)
   have hi := index_str hb'
   have w : IntKind.i64.wrap ((k : Int) + 1) = (k : Int) + 1 := wrap_succ hkl (by omega)
   unfold bOk at hok
   cases l1 : lowB b' <;> rw [l1] at hok
   ·simp only [Bool.false_or] at hok
    simp [hkl, hi, clet, cdig, l1, hok, w]
   ·simp [hkl, hi, clet, l1, w]
theorem refName_call {n : Nat} (s : List UInt8) (hs : s.length < 2 ^ 30) (hN : s.length < n + 2) (hn : 40 < n) : (handler Try.prog ppol (n + 3)).call (.func 52) [.str s] S = some (.ret (.bool (nameOk s)), S) := by
 rw [call_func (by rfl), refName_run s hs hN hn, refNm_eq]; rfl
theorem refName_any {n : Nat} (s : List UInt8) (hn : 60 < n) : (handler Try.prog ppol (n + 3)).call (.func 52) [.str s] S = some (.ret (.bool (nameOk s)), S) := by
 by_cases h : 16 < s.length
 ·obtain ⟨c, hs0⟩ : ∃ c, s[0]? = some c := ⟨_, List.getElem?_eq_getElem (by omega)⟩
  have g16 : (16 : Int) < s.length := by omega
  have hpos : ¬ (s.length : Int) < 1 := by omega
  have d16 : decide (s.length ≤ 16) = false := by rw [decide_eq_false_iff_not]; omega
  have hok : nameOk s = false := by rw [← refNm_eq]; simp [refNm, nameA_cons hs0, d16]
  rw [hok, call_func (by rfl), runFn_eq Try.func52 (by rfl)]
  simp [Try.f52, hpos, g16]
 ·exact refName_call s (by omega) (by omega) (by omega)
end Go.Ab.Seat
namespace Go.Ab.Seat
open Go.Proofs
set_option maxRecDepth 100000
set_option maxHeartbeats 1000000
variable {H : Handler} {N : Nat} {S : Sto}
theorem refEnd_call {n : Nat} (a : Int) (o : Option (List UInt8)) (own : Bool) : (handler Try.prog ppol (n + 1)).call (.func 17) [.agg [.int .i64 a, sv own 1 byteRow o]] S = some (.ret (.int .i64 (IntKind.i64.wrap (a + (ol o).length))), S) := by
 rw [call_func (by rfl), runFn_eq Try.func17 (by rfl)]
 simp [Try.f17]
def chk (f : FileV) : Int := if rightOk f then 0 else 310
structure CkI (o : Option (List PartV)) where
 k : Nat
 x : Int
 hk : k ≤ (ol o).length
 hx : pBad 0 (ol o) = pBad x ((ol o).drop k)
def CkE (S : Sto) (f : FileV) (i : CkI f.parts) : St := { env := envOf 100 [(1, .box (fileC f)), (3, .int .i64 i.x), (4, .int .i64 i.k), (6, .undef)], defs := [], par := .none, S := S }
def CkT (S : Sto) (f : FileV) (r : AExit × St) : Prop :=
 r.2.defs = [] ∧ r.2.par = .none ∧ r.2.S = S ∧ ((r.1 = .exit 0 ∧ (∃ d : Int, r.2.env = envOf 100 [(18, .int .i64 (ol f.parts).length), (20, sv false 2 partRow f.parts), (21, .int .i64 (ol f.parts).length), (22, .bool false), (1, .box (fileC f)), (3, .int .i64 d), (4, .int .i64 (ol f.parts).length), (6, .undef)]) ∧ pBad 0 (ol f.parts) = false) ∨ (r.1 = .ret ∧ getT r.2.env 2 = .int .i64 310 ∧ pBad 0 (ol f.parts) = true))
structure CnI (l : List SymV) where
 k : Nat
 hk : k ≤ l.length
 hb : ∀ j, j < k → nmAt l j = true
def CnE (S : Sto) (f : FileV) (d : AV) (i : CnI (ol f.names)) : St := { env := envOf 100 [(1, .box (fileC f)), (3, d), (4, .int .i64 (ol f.parts).length), (6, .int .i64 i.k)], defs := [], par := .none, S := S }
def CnT (S : Sto) (l : List SymV) (r : AExit × St) : Prop :=
 r.2.defs = [] ∧ r.2.par = .none ∧ r.2.S = S ∧ ((r.1 = .exit 2 ∧ r.2.env.length = 100 ∧ namesOk l = true) ∨ (r.1 = .ret ∧ getT r.2.env 2 = .int .i64 310 ∧ namesOk l = false))
theorem refCheck_run {n : Nat} (f : FileV) (h : Small f n) (hN : 6400 < N) :
  runFn Try.prog (handler Try.prog ppol (n + 4)) N ppol 18 .none [.agg (fileC f)] S = some (.ret (.int .i64 (chk f)), .none, S) := by
 obtain ⟨h1, h2, h4⟩ := h
 rw [runFn_eq Try.func18 (by rfl)]
 unfold chk rightOk sizesOk
 by_cases c1 : 64 < (ol f.parts).length
 ·have g1 : (64 : Int) < (ol f.parts).length := by omega
  have d1 : decide ((ol f.parts).length ≤ 64) = false := by rw [decide_eq_false_iff_not]; omega
  simp [Try.f18, g1, d1]
 have g1 : ¬ (64 : Int) < (ol f.parts).length := by omega
 have d1 : decide ((ol f.parts).length ≤ 64) = true := by rw [decide_eq_true_iff]; omega
 by_cases c2 : 64 < (ol f.names).length
 ·have g2 : (64 : Int) < (ol f.names).length := by omega
  have d2 : decide ((ol f.names).length ≤ 64) = false := by rw [decide_eq_false_iff_not]; omega
  simp [Try.f18, g1, d1, g2, d2]
 have g2 : ¬ (64 : Int) < (ol f.names).length := by omega
 have d2 : decide ((ol f.names).length ≤ 64) = true := by rw [decide_eq_true_iff]; omega
 rw [d1, d2]
 simp [Try.f18, g1, g2]
 generalize hL : loopN _ _ _ _ = L
 obtain ⟨x, st', rfl, hT⟩ := loop_fam' hL (CkE S f) (fun _ => CkT S f) (fun i => (ol f.parts).length - i.k) ⟨0, 0, by omega, by simp⟩ (by show _ - 0 < N; omega) (by simp [CkE]) (fun i => by
  obtain ⟨k, x, hk, hx⟩ := i
  clear hL
  by_cases hkl : k < (ol f.parts).length
  ·obtain ⟨p, hp⟩ : ∃ p, (ol f.parts)[k]? = some p := ⟨_, List.getElem?_eq_getElem hkl⟩
   have hdr : (ol f.parts).drop k = p :: (ol f.parts).drop (k + 1) := by
    rw [List.drop_eq_getElem_cons hkl, (List.getElem?_eq_some_iff.1 hp).2]
   rw [hdr] at hx
   have hend : IntKind.i64.wrap (p.at' + (ol p.bytes).length) = endI p := rfl
   have w : IntKind.i64.wrap ((k : Int) + 1) = (k : Int) + 1 := wrap_succ hkl (by omega)
   have hbd : badP x p = (decide ((ol p.bytes).length = 0) || decide (2048 < (ol p.bytes).length) || decide (p.at' < x) || decide (2048 ≤ p.at') || decide (2048 < endI p)) := rfl
   have cend := fun own => refEnd_call (n := n + 3) (S := S) p.at' p.bytes own
   rw [hend] at cend
   have bad : badP x p = true → pBad 0 (ol f.parts) = true := fun hb => by rw [hx]; simp [pBad, hb]
   by_cases q1 : (ol p.bytes).length = 0
   ·have e1 : ((ol p.bytes).length : Int) < 1 := by omega
    have hb := bad (by rw [hbd, q1]; rfl)
    simp [CkE, hkl, index_sv Try.underlying22 tycells45 _ hp, writeCells, e1, CkT, hb]
   have e1 : ¬ ((ol p.bytes).length : Int) < 1 := by omega
   by_cases q2 : 2048 < (ol p.bytes).length
   ·have e2 : (2048 : Int) < (ol p.bytes).length := by omega
    have hb := bad (by rw [hbd]; simp [q2])
    simp [CkE, hkl, index_sv Try.underlying22 tycells45 _ hp, writeCells, e1, e2, CkT, hb]
   have e2 : ¬ (2048 : Int) < (ol p.bytes).length := by omega
   by_cases q3 : p.at' < x
   ·have hb := bad (by rw [hbd]; simp [q3])
    simp [CkE, hkl, index_sv Try.underlying22 tycells45 _ hp, writeCells, e1, e2, q3, CkT, hb]
   by_cases q4 : 2048 ≤ p.at'
   ·have e4 : (2047 : Int) < p.at' := by omega
    have hb := bad (by rw [hbd]; simp [q4])
    simp [CkE, hkl, index_sv Try.underlying22 tycells45 _ hp, writeCells, e1, e2, q3, e4, CkT, hb]
   have e4 : ¬ (2047 : Int) < p.at' := by omega
   by_cases q5 : 2048 < endI p
   ·have hb := bad (by rw [hbd]; simp [q5])
    simp [CkE, hkl, index_sv Try.underlying22 tycells45 _ hp, writeCells, e1, e2, q3, e4, partRow, cend, q5, CkT, hb]
   ·have hok : badP x p = false := by rw [hbd]; simp [q1, q2, q3, q4, q5]
    simp [CkE, hkl, index_sv Try.underlying22 tycells45 _ hp, writeCells, e1, e2, q3, e4, partRow, cend, q5, w]
    refine ⟨⟨k + 1, endI p, hkl, ?_⟩, ?_, ⟨rfl, rfl⟩⟩
    ·rw [hx]; simp [pBad, hok]
    ·show _ - (k + 1) < _ - k; omega
  ·have hkn : k = (ol f.parts).length := by omega
   subst hkn
   have hb : pBad 0 (ol f.parts) = false := by rw [hx, List.drop_length]; rfl
   simp [CkE, CkT, hb])
 clear hL
 obtain ⟨env', defs', par', S'⟩ := st'
 obtain ⟨t1, t2, t3, ⟨rfl, ⟨d, t4⟩, t5⟩ | ⟨rfl, t4, t5⟩⟩ := hT
 rotate_left
 ·simp only at t1 t2 t3 t4
  subst t1 t2 t3
  simp [t4, t5]
 simp only at t1 t2 t3 t4
 subst t1 t2 t3 t4
 rw [t5]
 simp
 generalize hL : loopN _ _ _ _ = L
 obtain ⟨x, st', rfl, hT⟩ := loop_fam' hL (CnE S' f (.int .i64 d)) (fun _ => CnT S' (ol f.names)) (fun i => (ol f.names).length - i.k) ⟨0, by omega, fun j hj => by omega⟩ (by show _ - 0 < N; omega) (by simp [CnE]) (fun i => by
  obtain ⟨k, hk, hb⟩ := i
  clear hL
  by_cases hkl : k < (ol f.names).length
  ·obtain ⟨s, hks⟩ : ∃ s, (ol f.names)[k]? = some s := ⟨_, List.getElem?_eq_getElem hkl⟩
   have hc := refName_any (n := n + 1) (S := S') s.name (by omega)
   have g7 : IntKind.i64.wrap ((k : Int) + 1) = (k : Int) + 1 := wrap_succ hkl (by omega)
   have hnm : nmAt (ol f.names) k = (nameOk s.name && decide (0 ≤ s.at') && decide (s.at' ≤ 2048) && (decide (k = 0) || match (ol f.names)[k - 1]? with | some q => Op.bytesLess q.name s.name | none => true)) := by
    unfold nmAt; rw [hks]; rfl
   cases hok : nameOk s.name
   ·have hfl := nm_not hkl (by rw [hnm, hok]; rfl)
    rw [hok] at hc
    simp [CnE, hkl, index_sv Try.underlying23 tycells64 _ hks, writeCells]
    rw [evDraw_go]
    ·simp [hc, CnT, hfl]
    ·kernel_rfl
   ·rw [hok] at hc hnm
    by_cases c1 : s.at' < 0
    ·have d1 : decide (0 ≤ s.at') = false := by rw [decide_eq_false_iff_not]; omega
     have hfl := nm_not hkl (by rw [hnm, d1]; rfl)
     simp [CnE, hkl, index_sv Try.underlying23 tycells64 _ hks, writeCells]
     rw [evDraw_go]
     ·simp [hc, CnT, hfl, c1]
     ·kernel_rfl
    ·have d1 : decide (0 ≤ s.at') = true := by rw [decide_eq_true_iff]; omega
     by_cases c2 : 2048 < s.at'
     ·have d2 : decide (s.at' ≤ 2048) = false := by rw [decide_eq_false_iff_not]; omega
      have hfl := nm_not hkl (by rw [hnm, d1, d2]; rfl)
      simp [CnE, hkl, index_sv Try.underlying23 tycells64 _ hks, writeCells]
      rw [evDraw_go]
      ·simp [hc, CnT, hfl, c1, c2]
      ·kernel_rfl
     ·have d2 : decide (s.at' ≤ 2048) = true := by rw [decide_eq_true_iff]; omega
      rw [d1, d2] at hnm
      by_cases c3 : k = 0
      ·subst c3
       have hi0 := index_sv (own := false) (g := symRow) Try.underlying23 tycells64 .i64 hks
       rw [show ((0 : Nat) : Int) = 0 from rfl] at hi0 g7
       simp [CnE, hkl, hi0, writeCells]
       rw [evDraw_go]
       ·simp [hc, c1, c2]
        refine ⟨⟨1, hkl, fun j hj => ?_⟩, ?_, ?_⟩
        ·have : j = 0 := by omega
         rw [this, hnm]; rfl
        ·show _ - 1 < _ - 0; omega
        ·simp [CnE]; exact Go.IntWalk.i64_in _ (by omega)
       ·kernel_rfl
      ·have c3' : 0 < k := by omega
       obtain ⟨q, hkq⟩ : ∃ q, (ol f.names)[k - 1]? = some q := ⟨_, List.getElem?_eq_getElem (by omega)⟩
       have g8 : IntKind.i64.wrap ((k : Int) - 1) = ((k - 1 : Nat) : Int) := by
        rw [show (k : Int) - 1 = ((k - 1 : Nat) : Int) by omega]; exact Go.IntWalk.i64_in _ (by omega)
       rw [hkq] at hnm
       cases hless : Op.bytesLess q.name s.name
       ·have hfl := nm_not hkl (by rw [hnm]; simp [c3, hless])
        simp [CnE, hkl, index_sv Try.underlying23 tycells64 _ hks, writeCells]
        rw [evDraw_go]
        ·simp [hc, c1, c2, c3', g8, index_sv Try.underlying23 tycells64 _ hkq, hless, CnT, hfl]
        ·kernel_rfl
       ·simp [CnE, hkl, index_sv Try.underlying23 tycells64 _ hks, writeCells]
        rw [evDraw_go]
        ·simp [hc, c1, c2, c3', g8, index_sv Try.underlying23 tycells64 _ hkq, hless]
         refine ⟨⟨k + 1, hkl, fun j hj => ?_⟩, ?_, ?_⟩
         ·by_cases e : j = k
          ·rw [e, hnm]; simp [hless]
          ·exact hb j (by omega)
         ·show _ - (k + 1) < _ - k; omega
         ·simp [CnE, g7]
        ·kernel_rfl
  ·have hkn : k = (ol f.names).length := by omega
   have hall := nm_all (l := ol f.names) (fun j hj => hb j (by omega))
   simp [CnE, hkl, CnT, hall])
 clear hL
 obtain ⟨env', defs', par', S''⟩ := st'
 obtain ⟨t1, t2, t3, ⟨rfl, t4, t6⟩ | ⟨rfl, t4, t6⟩⟩ := hT
 ·simp only at t1 t2 t3 t4
  subst t1 t2 t3
  simp [t6, getT_setT_self, t4]
 ·simp only at t1 t2 t3 t4
  subst t1 t2 t3
  simp [t4, t6]
theorem refCheck_callN (f : FileV) (h : Small f 6500) (hN : 6600 < N) : (handler Try.prog ppol N).call (.func 18) [.agg (fileC f)] S = some (.ret (.int .i64 (chk f)), S) := by
 obtain ⟨n, rfl⟩ : ∃ n, N = n + 5 := ⟨N - 5, by omega⟩
 rw [call_func (by rfl), refCheck_run (n := n) (N := n + 4) (S := S) f (h.up (by omega)) (by omega)]; rfl
end Go.Ab.Seat
namespace Go.Ab
variable {P : Program} {H : Handler} {pol : Pol} {f : FuncId} {N : Nat}
end Go.Ab
namespace Go.Ab.Seat
open Go.Proofs
set_option maxRecDepth 100000
set_option maxHeartbeats 1000000
variable {H : Handler} {N : Nat} {S : Sto}
theorem conv_sv (o : Bool) (b : Option (List UInt8)) : convA Try.prog 28 9 (sv o 1 byteRow b) = some (.str (ol b)) := by
 cases b with
 | none => simp [sv, convA, ol]
 | some l => exact conv_str o l
end Go.Ab.Seat
namespace Go.Proofs.Ytooahmehpnbfgaa
open Go.Ab Go.Ab.Seat Go.ChangeShapes Go.WideShapes Go.ChangeAt Go.RowKit
end Go.Proofs.Ytooahmehpnbfgaa
namespace Go.Ab.Seat
open Go.Proofs
set_option maxRecDepth 100000
set_option maxHeartbeats 1000000
end Go.Ab.Seat
namespace Go.Ab.Seat
open Go.Proofs
set_option maxRecDepth 100000
set_option maxHeartbeats 1000000
variable {H : Handler} {N : Nat} {S : Sto}
end Go.Ab.Seat
namespace Go.Ab.Seat
open Go.Proofs
set_option maxRecDepth 100000
set_option maxHeartbeats 1000000
variable {H : Handler} {N : Nat} {S : Sto}
end Go.Ab.Seat
namespace Go.Ab.Seat
open Go.Proofs
set_option maxRecDepth 100000
set_option maxHeartbeats 1000000
variable {H : Handler} {N : Nat} {S : Sto}
theorem eqStr (d : Nat) (x : List UInt8) : eqA Try.prog (d + 1) 9 (.str x) (.str x) = some true := by
 simp only [eqA, Try.underlying9, beq_self_eq_true]
theorem eqI64 (d : Nat) (x : Int) : eqA Try.prog (d + 1) 3 (.int .i64 x) (.int .i64 x) = some true := by
 simp only [eqA, Try.underlying3, beq_self_eq_true, if_true]
theorem symEqA (d : Nat) (s : SymV) : eqA Try.prog (d + 2) 64 (.agg (symRow s)) (.agg (symRow s)) = some true := by
 have g : Try.prog.stoodInHeld 64 = false := by kernel_rfl
 conv => lhs; unfold eqA
 simp only [Try.underlying64, g, Bool.false_eq_true, if_false]
 have n1 : ¬ "Name" = "_" := by decide
 have n2 : ¬ "At" = "_" := by decide
 simp only [eqFields, n1, n2, if_false, List.drop_zero, tyval9, tyval3, symRow_head, symRow_drop1, List.head?_cons, eqStr, eqI64]
theorem symNe (s : SymV) : binA Try.prog .neq 64 false (.agg (symRow s)) (.agg (symRow s)) = some (.bool false) := by
 have g : Try.prog.eqGuardType Try.prog.depth 64 = false := by kernel_rfl
 have e := symEqA 9998 s
 simp only [binA, g, Bool.false_eq_true, if_false]
 rw [show Op.maxDepth = 9998 + 2 from rfl, e]
 rfl
structure SameF (a b : FileV) : Prop where
 len : (ol a.parts).length = (ol b.parts).length
 part : ∀ (k : Nat) p q, (ol a.parts)[k]? = some p → (ol b.parts)[k]? = some q → p.at' = q.at' ∧ ol p.bytes = ol q.bytes
 names : ol a.names = ol b.names
theorem refSame_run {n : Nat} (a b : FileV) (h : SameF a b) (h1 : (ol a.parts).length < 2 ^ 30) (h2 : (ol a.names).length < 2 ^ 30) (hN1 : (ol a.parts).length < N) (hN2 : (ol a.names).length < N) (_hk : SOK S) :
  runFn Try.prog (handler Try.prog ppol n) N ppol 13 .none [.agg (fileC a), .agg (fileC b)] S = some (.ret (.bool true), .none, S) := by
 rw [runFn_eq Try.func13 (by rfl)]
 obtain ⟨hl, hp, hn⟩ := h
 simp [Try.f13, hl, hn]
 rw [loop_go (fun k => { env := envOf 78 [(2, .box (fileC a)), (3, .box (fileC b)), (5, .int .i64 k), (6, .undef)], defs := [], par := .none, S := S }) (ol a.parts).length hN1]
 ·simp
  rw [loop_go (fun k => { env := envOf 78 [(2, .box (fileC a)), (3, .box (fileC b)), (5, .int .i64 (ol a.parts).length), (6, .int .i64 k)], defs := [], par := .none, S := S }) (ol a.names).length hN2]
  ·simp
  ·simp
  ·intro k hkl
   obtain ⟨s, hs⟩ : ∃ s, (ol a.names)[k]? = some s := ⟨_, List.getElem?_eq_getElem hkl⟩
   have hs' : (ol b.names)[k]? = some s := by rw [← hn]; exact hs
   have g7 : IntKind.i64.wrap ((k : Int) + 1) = (k : Int) + 1 := wrap_succ hkl (by omega)
   have c1 : (k : Int) < (ol a.names).length := by omega
   simp [c1]
   rw [evDraw_go]
   ·simp [index_sv Try.underlying23 tycells64 _ hs, index_sv Try.underlying23 tycells64 _ hs', symNe, g7]
   ·kernel_rfl
 ·simp
 ·intro k hkl
  obtain ⟨p, hp1⟩ : ∃ p, (ol a.parts)[k]? = some p := ⟨_, List.getElem?_eq_getElem hkl⟩
  obtain ⟨q, hq1⟩ : ∃ q, (ol b.parts)[k]? = some q := ⟨_, List.getElem?_eq_getElem (by omega)⟩
  obtain ⟨r1, r2⟩ := hp k p q hp1 hq1
  have g7 : IntKind.i64.wrap ((k : Int) + 1) = (k : Int) + 1 := wrap_succ hkl (by omega)
  have c1 : (k : Int) < (ol a.parts).length := by omega
  simp [c1]
  rw [evDraw_go]
  ·simp [index_sv Try.underlying22 tycells45 _ hp1, index_sv Try.underlying22 tycells45 _ hq1, partRow, r1, r2, conv_sv, g7]
  ·kernel_rfl
end Go.Ab.Seat
namespace Go.Ab.Seat
open Go.Proofs
set_option maxRecDepth 100000
set_option maxHeartbeats 1000000
variable {H : Handler} {N : Nat} {S : Sto}
theorem refSame_callN (a b : FileV) (h : SameF a b) (h1 : (ol a.parts).length < 2 ^ 13) (h2 : (ol a.names).length < 2 ^ 13) (hN : 2 ^ 20 < N) (hk : SOK S) : (handler Try.prog ppol N).call (.func 13) [.agg (fileC a), .agg (fileC b)] S = some (.ret (.bool true), S) := by
 obtain ⟨n, rfl⟩ : ∃ n, N = n + 1 := ⟨N - 1, by omega⟩
 rw [call_func (by rfl), refSame_run (n := n) (N := n) a b h (by omega) (by omega) (by omega) (by omega) hk]; rfl
end Go.Ab.Seat
namespace Go.Proofs.Ytooahmehpnbfgaa
open Go.Ab Go.Ab.Seat Go.ChangeShapes Go.WideShapes Go.ChangeAt Go.RowKit
end Go.Proofs.Ytooahmehpnbfgaa
namespace Go.Ab
variable {P : Program}
open Srt
def tab {X : Type} (n : Nat) (g : Nat → X) : List X := (List.range n).map g
theorem tab_len {X : Type} (n : Nat) (g : Nat → X) : (tab n g).length = n := by simp [tab]
theorem tab_get {X : Type} {n : Nat} (g : Nat → X) {i : Nat} (h : i < n) : (tab n g)[i]? = some (g i) := by
 simp [tab, h]
theorem tab_set {X : Type} (n : Nat) (g : Nat → X) (i : Nat) (v : X) : (tab n g).set i v = tab n fun k => if k = i then v else g k := by
 apply List.ext_getElem?
 intro k
 rw [List.getElem?_set]
 by_cases hk : k < n
 ·rw [tab_get _ hk, tab_get _ hk, tab_len]
  by_cases e : i = k
  ·subst e; simp [hk]
  ·rw [if_neg e, if_neg (fun h => e h.symm)]
 ·rw [List.getElem?_eq_none (by rw [tab_len]; omega), List.getElem?_eq_none (by rw [tab_len]; omega), tab_len]
  by_cases e : i = k
  ·subst e; simp [hk]
  ·simp [e]
theorem tab_swap {X : Type} (n : Nat) (g : Nat → X) (i j : Nat) : ((tab n g).set i (g j)).set j (g i) = tab n (swp g j i) := by
 rw [tab_set, tab_set]
 congr 1
theorem storeS_put {env : List AV} {defs : List ADef} {par : AMode} {S : Sto} {t : TypeId} {id r off es : Nat} {rows : List (List AV)} {row row' : List AV} {v : AV} (h : S.get id = some (.arr es rows)) (hr : rows[r]? = some row) (hw : writeCells P t off row v.strip1 = some row') :
  storeS P t (.aptr id r off) v { env := env, defs := defs, par := par, S := S } = some (.val .undef { env := env, defs := defs, par := par, S := S.put id (.arr es (rows.set r row')) }) := by
 simp only [storeS, h, hr, hw, Option.map_some]
end Go.Ab
namespace Go.Ab.Seat
open Go.Proofs Srt
set_option maxRecDepth 100000
set_option maxHeartbeats 1000000
variable {H : Handler} {N : Nat} {S : Sto}
def arrP (n : Nat) (f : Nat → PartV) : Obj := .arr 2 (tab n fun i => partRow (f i))
theorem writeP (p q : PartV) : writeCells Try.prog 45 0 (partRow p) (.agg (partRow q)) = some (partRow q) := by simp [writeCells, partRow]
theorem swapP_run {n id : Nat} (f : Nat → PartV) (a b k : Nat) (v : AV) (hn : n < 2 ^ 30) (hab : a + k ≤ b) (hb : b + k ≤ n) (hN : k < N) (hv : v.strip = v) {m : Nat} (hS : S.get id = some (arrP n f)) :
  runFn Try.prog (handler Try.prog ppol m) N ppol 110 .none [.rsl id 2 0 n, .int .i64 a, .int .i64 b, .int .i64 k, v] S = some (.ret .undef, .none, S.put id (arrP n (exch f a b k))) := by
 rw [runFn_eq Try.func110 (by rfl)]
 simp [Try.f110]
 rw [loop_go (fun i => { env := envOf 38 [(0, .rsl id 2 0 n), (1, .int .i64 a), (2, .int .i64 b), (3, .int .i64 k), (10, .int .i64 i)], defs := [], par := .none, S := S.put id (arrP n (exch f a b i)) }) k hN]
 ·simp
 ·simp [exch_zero, put_self hS]
 ·intro i hi
  have w1 : IntKind.i64.wrap ((i : Int) + 1) = (i : Int) + 1 := wrap_succ hi (by omega)
  have wa : IntKind.i64.wrap ((a : Int) + i) = ((a + i : Nat) : Int) := by rw [← Int.natCast_add]; exact Go.IntWalk.i64_in _ (by omega)
  have wb : IntKind.i64.wrap ((b : Int) + i) = ((b + i : Nat) : Int) := by rw [← Int.natCast_add]; exact Go.IntWalk.i64_in _ (by omega)
  obtain ⟨g, hg⟩ : ∃ g, exch f a b i = g := ⟨_, rfl⟩
  have hnext : exch f a b (i + 1) = swp g (a + i) (b + i) := by rw [← hg]; exact (exch_succ f a b i (by omega)).symm
  rw [hg, hnext]
  obtain ⟨S1, hS1⟩ : ∃ S1, S.put id (arrP n g) = S1 := ⟨_, rfl⟩
  have h1 : S1.get id = some (.arr 2 (tab n fun i => partRow (g i))) := by rw [← hS1]; exact get_put_self hS
  have ia := index_rsl (id := id) (k := .i64) (len := n) (i := a + i) Try.underlying22 tycells45 (by omega) (by omega)
  have ib := index_rsl (id := id) (k := .i64) (len := n) (i := b + i) Try.underlying22 tycells45 (by omega) (by omega)
  have ra := tab_get (fun i => partRow (g i)) (n := n) (i := a + i) (by omega)
  have rb := tab_get (fun i => partRow (g i)) (n := n) (i := b + i) (by omega)
  have la := fun env t off => loadA_aptr (P := Try.prog) (env := env) (t := t) (off := off) h1 ra
  have lb := fun env t off => loadA_aptr (P := Try.prog) (env := env) (t := t) (off := off) h1 rb
  have s1 := fun env defs par => storeS_put (P := Try.prog) (env := env) (defs := defs) (par := par) (t := 45) (off := 0) (v := .agg (partRow (g (b + i)))) h1 ra (by simpa using writeP _ _)
  have h2 : (S1.put id (.arr 2 ((tab n fun i => partRow (g i)).set (a + i) (partRow (g (b + i)))))).get id = some (.arr 2 ((tab n fun i => partRow (g i)).set (a + i) (partRow (g (b + i))))) := get_put_self h1
  have rb2 : ((tab n fun i => partRow (g i)).set (a + i) (partRow (g (b + i))))[b + i]? = some (partRow (g (b + i))) := by
   rw [List.getElem?_set]
   by_cases e : a + i = b + i
   ·rw [if_pos e, e, tab_len, if_pos (by omega)]
   ·rw [if_neg e]; exact rb
  have s2 := fun env defs par => storeS_put (P := Try.prog) (env := env) (defs := defs) (par := par) (t := 45) (off := 0) (v := .agg (partRow (g (a + i)))) h2 rb2 (by simpa using writeP _ _)
  have hfin : S1.put id (.arr 2 (((tab n fun i => partRow (g i)).set (a + i) (partRow (g (b + i)))).set (b + i) (partRow (g (a + i))))) = S.put id (arrP n (swp g (a + i) (b + i))) := by
   rw [← hS1, put_put]
   congr 1
   unfold arrP
   congr 1
   rw [tab_swap n (fun i => partRow (g i)) (a + i) (b + i)]
   congr 1
   funext x
   unfold swp
   repeat' split
   all_goals first | rfl | omega | (congr 2; omega)
  have c1 : (i : Int) < k := by omega
  simp [c1, hS1]
  rw [evDraw_go]
  ·simp [wa, wb, ia, ib, la, lb, s1, s2, hfin, w1, -Int.natCast_add]
  ·kernel_rfl
end Go.Ab.Seat
namespace Go.Ab.Seat
open Go.Proofs Srt
set_option maxRecDepth 100000
set_option maxHeartbeats 1000000
variable {H : Handler} {N : Nat} {S : Sto}
theorem swapP_call {n id k' : Nat} (f : Nat → PartV) (a b k : Nat) (v : AV) (hn : n < 2 ^ 30) (hab : a + k ≤ b) (hb : b + k ≤ n) (hN : k < k') (hv : v.strip = v) (hS : S.get id = some (arrP n f)) :
  (handler Try.prog ppol (k' + 1)).call (.func 110) [.rsl id 2 0 n, .int .i64 a, .int .i64 b, .int .i64 k, v] S = some (.ret .undef, S.put id (arrP n (exch f a b k))) := by
 rw [call_func (by rfl), swapP_run f a b k v hn hab hb hN hv hS]; rfl
structure RoI (f : Nat → PartV) (m i0 j0 : Nat) where
 i : Nat
 j : Nat
 g : Nat → PartV
 hi : 0 < i
 hj : 0 < j
 hii : i ≤ i0
 hjj : j ≤ j0
 hg : rot g m i j = rot f m i0 j0
def RoE (S : Sto) (id n : Nat) (v : AV) (f : Nat → PartV) (m i0 j0 : Nat) (x : RoI f m i0 j0) : St :=
 { env := envOf 58 [(0, .rsl id 2 0 n), (2, .int .i64 m), (4, v), (10, .int .i64 x.i), (11, .int .i64 x.j)], defs := [], par := .none, S := S.put id (arrP n x.g) }
def RoT (S : Sto) (id n : Nat) (v : AV) (f : Nat → PartV) (m i0 j0 : Nat) (r : AExit × St) : Prop := ∃ (i : Nat) (g : Nat → PartV), 0 < i ∧ i ≤ i0 ∧ i ≤ j0 ∧ rot g m i i = rot f m i0 j0 ∧
 r = (.exit 0, { env := envOf 58 [(18, .int .i64 i), (19, .int .i64 i), (20, .bool false), (0, .rsl id 2 0 n), (2, .int .i64 m), (4, v), (10, .int .i64 i), (11, .int .i64 i)], defs := [], par := .none, S := S.put id (arrP n g) })
theorem rotP_run {n id k' : Nat} (f : Nat → PartV) (a m b : Nat) (g : FuncId) (hn : n < 2 ^ 29) (ham : a < m) (hmb : m < b) (hb : b ≤ n) (hN : n + n < N) (hk : n < k') (hS : S.get id = some (arrP n f)) :
  runFn Try.prog (handler Try.prog ppol (k' + 1)) N ppol 108 .none [.rsl id 2 0 n, .int .i64 a, .int .i64 m, .int .i64 b, .fn (.func g) [] []] S = some (.ret .undef, .none, S.put id (arrP n (rot f m (m - a) (b - m)))) := by
 rw [runFn_eq Try.func108 (by rfl)]
 have w1 : IntKind.i64.wrap ((m : Int) - a) = ((m - a : Nat) : Int) := by rw [show (m : Int) - a = ((m - a : Nat) : Int) by omega]; exact Go.IntWalk.i64_in _ (by omega)
 have w2 : IntKind.i64.wrap ((b : Int) - m) = ((b - m : Nat) : Int) := by rw [show (b : Int) - m = ((b - m : Nat) : Int) by omega]; exact Go.IntWalk.i64_in _ (by omega)
 simp [Try.f108, w1, w2]
 generalize hL : loopN _ _ _ _ = L
 obtain ⟨x, st', rfl, hT⟩ := loop_fam' hL (RoE S id n (.fn (.func g) [] []) f m (m - a) (b - m)) (fun _ => RoT S id n (.fn (.func g) [] []) f m (m - a) (b - m)) (fun x => x.i + x.j) ⟨m - a, b - m, f, by omega, by omega, by omega, by omega, rfl⟩ (by show m - a + (b - m) < N; omega) (by simp [RoE, put_self hS]) (fun x => by
  obtain ⟨i, j, h, hi, hj, hii, hjj, hg⟩ := x
  clear hL
  have hS1 : (S.put id (arrP n h)).get id = some (arrP n h) := get_put_self hS
  have v1 : IntKind.i64.wrap ((m : Int) - i) = ((m - i : Nat) : Int) := by rw [show (m : Int) - i = ((m - i : Nat) : Int) by omega]; exact Go.IntWalk.i64_in _ (by omega)
  rcases Nat.lt_trichotomy i j with hij | hij | hij
  ·have c1 : ¬ i = j := by omega
   have c2 : ¬ (j : Int) < i := by omega
   have c3 : ¬ j < i := by omega
   have v2 : IntKind.i64.wrap ((m : Int) + j) = ((m + j : Nat) : Int) := by rw [← Int.natCast_add]; exact Go.IntWalk.i64_in _ (by omega)
   have v3 : IntKind.i64.wrap (((m + j : Nat) : Int) - i) = ((m + j - i : Nat) : Int) := by rw [show ((m + j : Nat) : Int) - i = ((m + j - i : Nat) : Int) by omega]; exact Go.IntWalk.i64_in _ (by omega)
   have v4 : IntKind.i64.wrap ((j : Int) - i) = ((j - i : Nat) : Int) := by rw [show (j : Int) - i = ((j - i : Nat) : Int) by omega]; exact Go.IntWalk.i64_in _ (by omega)
   have c := swapP_call (k' := k') h (m - i) (m + j - i) i (.fn (.func g) [] []) (by omega) (by omega) (by omega) (by omega) rfl hS1
   simp [RoE, c1, c2, v1, v2, v3, v4, c, -Int.natCast_add]
   refine ⟨⟨i, j - i, exch h (m - i) (m + j - i) i, hi, by omega, hii, by omega, by rw [rot_right h m i j (by omega) hij]; exact hg⟩, ?_, ⟨⟨rfl, rfl⟩, rfl⟩⟩
   show i + (j - i) < i + j; omega
  ·subst hij
   simp [RoE]
   exact ⟨i, h, hi, hii, hjj, hg, by simp⟩
  ·have c1 : ¬ i = j := by omega
   have c2 : (j : Int) < i := by omega
   have v4 : IntKind.i64.wrap ((i : Int) - j) = ((i - j : Nat) : Int) := by rw [show (i : Int) - j = ((i - j : Nat) : Int) by omega]; exact Go.IntWalk.i64_in _ (by omega)
   have c := swapP_call (k' := k') h (m - i) m j (.fn (.func g) [] []) (by omega) (by omega) (by omega) (by omega) rfl hS1
   simp [RoE, c1, c2, v1, v4, c, -Int.natCast_add]
   refine ⟨⟨i - j, j, exch h (m - i) m j, by omega, hj, by omega, hjj, by rw [rot_left h m i j (by omega) hij]; exact hg⟩, ?_, ⟨⟨rfl, rfl⟩, rfl⟩⟩
   show i - j + j < i + j; omega)
 clear hL
 obtain ⟨i, h, hi, hii, hjj, hg, e⟩ := hT
 obtain ⟨rfl, rfl⟩ := Prod.mk.inj e
 have hS1 : (S.put id (arrP n h)).get id = some (arrP n h) := get_put_self hS
 have v1 : IntKind.i64.wrap ((m : Int) - i) = ((m - i : Nat) : Int) := by rw [show (m : Int) - i = ((m - i : Nat) : Int) by omega]; exact Go.IntWalk.i64_in _ (by omega)
 have c := swapP_call (k' := k') h (m - i) m i (.fn (.func g) [] []) (by omega) (by omega) (by omega) (by omega) rfl hS1
 rw [rot_same h m i (by omega), hg] at c
 simp [v1, c, -Int.natCast_add]
end Go.Ab.Seat
namespace Go.Ab.Seat
open Go.Proofs Srt
set_option maxRecDepth 100000
set_option maxHeartbeats 1000000
variable {H : Handler} {N : Nat} {S : Sto}
structure CmpP (g : FuncId) (K : Nat) (c : PartV → PartV → Int) : Prop where
 run : ∀ (x y : PartV) (S : Sto) (k : Nat), K ≤ k → (handler Try.prog ppol k).call (.func g) [.agg (partRow x), .agg (partRow y)] S = some (.ret (.int .i64 (c x y)), S)
 wo : WO fun x y => c x y < 0
def upd {X : Type} (f : Nat → X) (a : Nat) (q : X) : Nat → X := fun k => if k = a then q else f k
theorem upd_swp {X : Type} (g : Nat → X) (i j : Nat) : upd (upd g i (g j)) j (g i) = swp g i j := by
 funext x
 unfold upd swp
 repeat' split
 all_goals first | rfl | omega | (subst_vars; rfl) | simp_all
abbrev DP := Nat → PartV × Nat
def arrD (n : Nat) (d : DP) : Obj := arrP n fun i => (d i).1
theorem getP {S1 : Sto} {id n a : Nat} {d : DP} (h : S1.get id = some (arrD n d)) (ha : a < n) (env : List AV) (t : TypeId) (off : Nat) : loadA Try.prog S1 env t (.aptr id a off) = valAt Try.prog t ((partRow (d a).1).drop off) :=
 loadA_aptr h (tab_get (fun i => partRow (d i).1) ha)
theorem stP {S1 : Sto} {id n a : Nat} {d : DP} (h : S1.get id = some (arrD n d)) (ha : a < n) (q : PartV × Nat) (env : List AV) (defs : List ADef) (par : AMode) :
  storeS Try.prog 45 (.aptr id a 0) (.agg (partRow q.1)) { env := env, defs := defs, par := par, S := S1 } = some (.val .undef { env := env, defs := defs, par := par, S := S1.put id (arrD n (upd d a q)) }) := by
 rw [storeS_put (row' := partRow q.1) h (tab_get (fun i => partRow (d i).1) ha) (by simpa using writeP _ _), tab_set]
 congr 4
 unfold arrD arrP
 congr 2
 funext k
 by_cases hk : k = a
 ·subst hk; simp [upd]
 ·simp [upd, hk]
theorem stP2 {S1 : Sto} {id n a b : Nat} {d : DP} (h : S1.get id = some (arrD n d)) (ha : a < n) (q : PartV × Nat) (d2 : DP) (h2 : upd (upd d b (d a)) a q = d2) (env : List AV) (defs : List ADef) (par : AMode) :
  storeS Try.prog 45 (.aptr id a 0) (.agg (partRow q.1)) { env := env, defs := defs, par := par, S := S1.put id (arrD n (upd d b (d a))) } = some (.val .undef { env := env, defs := defs, par := par, S := S1.put id (arrD n d2) }) := by
 rw [stP (get_put_self h) ha, put_put, h2]
theorem good_arrD (n : Nat) (d : DP) : goodO (arrD n d) = true := by
 unfold arrD arrP tab
 exact goodR (g := fun i => partRow (d i).1) (fun x => goodPart _) 2 _
def plt : PartV × Nat → PartV × Nat → Prop := fun x y => x.2 < y.2
structure InO (c : PartV → PartV → Int) (a b : Nat) (d0 : DP) where
 i : Nat
 d : DP
 x9 : AV
 ai : a < i
 ib : i ≤ b ∨ i = a + 1
 pm : Perm a (min i b) d0 d
 so : SortedOn (lex fun x y => c x y < 0) d a (min i b)
 fa : ∀ q, i ≤ q → d q = d0 q
def InOE (S : Sto) (id n : Nat) (a b : Nat) (g : FuncId) {c : PartV → PartV → Int} {d0 : DP} (x : InO c a b d0) : St :=
 { env := envOf 53 [(0, .rsl id 2 0 n), (1, .int .i64 a), (2, .int .i64 b), (3, .fn (.func g) [] []), (8, .int .i64 x.i), (9, x.x9)], defs := [], par := .none, S := S.put id (arrD n x.d) }
def InOT (S : Sto) (id n : Nat) (c : PartV → PartV → Int) (a b : Nat) (d0 : DP) (r : AExit × St) : Prop :=
 ∃ d : DP, Perm a b d0 d ∧ SortedOn (lex fun x y => c x y < 0) d a b ∧ r.1 = .exit 0 ∧ r.2.defs = [] ∧ r.2.par = .none ∧ r.2.S = S.put id (arrD n d)
structure InI (c : PartV → PartV → Int) (a i : Nat) (d0 : DP) where
 j : Nat
 d : DP
 pm : Perm a (i + 1) d0 d
 ins : Ins (lex fun x y => c x y < 0) d a i j
 pl : ∀ p, a ≤ p → p ≤ i → p ≠ j → (d p).2 < (d j).2
def InIE (S : Sto) (id n : Nat) (a b : Nat) (g : FuncId) {c : PartV → PartV → Int} {i : Nat} {d0 : DP} (x : InI c a i d0) : St :=
 { env := envOf 53 [(0, .rsl id 2 0 n), (1, .int .i64 a), (2, .int .i64 b), (3, .fn (.func g) [] []), (8, .int .i64 i), (9, .int .i64 x.j)], defs := [], par := .none, S := S.put id (arrD n x.d) }
def InIT (S : Sto) (id n : Nat) (c : PartV → PartV → Int) (a b : Nat) (g : FuncId) (i : Nat) (d0 : DP) (r : AExit × St) : Prop :=
 ∃ (j : Nat) (d : DP) (x18 x19 x20 x21 x22 x23 x24 x25 x26 x27 x28 x29 x30 x31 x32 x33 x34 : AV), Perm a (i + 1) d0 d ∧ SortedOn (lex fun x y => c x y < 0) d a (i + 1) ∧
  r = (.exit 2, { env := envOf 53 [(18, x18), (19, x19), (20, x20), (21, x21), (22, x22), (23, x23), (24, x24), (25, x25), (26, x26), (27, x27), (28, x28), (29, x29), (30, x30), (31, x31), (32, x32), (33, x33), (34, x34), (0, .rsl id 2 0 n), (1, .int .i64 a), (2, .int .i64 b), (3, .fn (.func g) [] []), (8, .int .i64 i), (9, .int .i64 j)], defs := [], par := .none, S := S.put id (arrD n d) })
theorem insP_run {n id g K k' : Nat} {c : PartV → PartV → Int} (hc : CmpP g K c) (hk : K ≤ k') (a b : Nat) (d0 : DP) (hn : n < 2 ^ 29) (hab : a ≤ b) (hb : b ≤ n) (hN : n + 1 < N) (hpl : SortedOn plt d0 a b) (hS : S.get id = some (arrD n d0)) (hK : SOK S) :
  ∃ d : DP, Perm a b d0 d ∧ SortedOn (lex fun x y => c x y < 0) d a b ∧ runFn Try.prog (handler Try.prog ppol k') N ppol 104 .none [.rsl id 2 0 n, .int .i64 a, .int .i64 b, .fn (.func g) [] []] S = some (.ret .undef, .none, S.put id (arrD n d)) := by
 rw [runFn_eq Try.func104 (by rfl)]
 have w1 : IntKind.i64.wrap ((a : Int) + 1) = ((a + 1 : Nat) : Int) := wrap_succ (n := n + 1) (by omega) (by omega)
 simp [Try.f104, w1, -Int.natCast_add]
 generalize hL : loopN _ _ _ _ = L
 obtain ⟨x, st', rfl, hT⟩ := loop_fam' hL (InOE S id n a b g (c := c) (d0 := d0)) (fun _ => InOT S id n c a b d0) (fun x => b + 1 - x.i) ⟨a + 1, d0, .undef, by omega, .inr rfl, Perm.refl _ _ _, fun i j _ _ _ => by omega, fun _ _ => rfl⟩ (by show b + 1 - (a + 1) < N; omega) (by simp [InOE, put_self hS, -Int.natCast_add]) (fun x => by
  obtain ⟨i, d, x9, ai, ib, pm, so, fa⟩ := x
  clear hL
  by_cases hi : i < b
  ·have c1 : (i : Int) < b := by omega
   simp [InOE, c1]
   generalize hL2 : loopN _ _ _ _ = L2
   have hd : ∀ q, i ≤ q → d q = d0 q := fa
   rw [Nat.min_eq_left (by omega)] at pm so
   have hpl2 : ∀ p, a ≤ p → p < i → (d p).2 < (d i).2 := fun p h1 h2 => by
    obtain ⟨y, y1, y2, y3⟩ := pm.from ⟨h1, h2⟩
    rw [y3, hd i (Nat.le_refl _)]
    exact hpl y i y1 y2 hi
   obtain ⟨y, st2, rfl, hT2⟩ := loop_fam' hL2 (InIE S id n a b g (c := c) (i := i) (d0 := d0)) (fun _ => InIT S id n c a b g i d0) (fun x => x.j) ⟨i, d, pm.mono (by omega) (by omega), Ins.start so (by omega), fun p h1 h2 h3 => hpl2 p h1 (by omega)⟩ (by show i < N; omega) (by simp [InIE]) (fun y => by
    obtain ⟨j, e, pm2, ins, pl⟩ := y
    clear hL2
    have aj := ins.aj
    have ji := ins.ji
    have hS1 : (S.put id (arrD n e)).get id = some (arrD n e) := get_put_self hS
    obtain ⟨S1, hS1e⟩ : ∃ S1, S.put id (arrD n e) = S1 := ⟨_, rfl⟩
    rw [hS1e] at hS1
    have hK1 : SOK S1 := by rw [← hS1e]; exact hK.put (good_arrD _ _)
    by_cases hj : a < j
    ·have c2 : (a : Int) < j := by omega
     have v1 : IntKind.i64.wrap ((j : Int) - 1) = ((j - 1 : Nat) : Int) := by rw [show (j : Int) - 1 = ((j - 1 : Nat) : Int) by omega]; exact Go.IntWalk.i64_in _ (by omega)
     have ia := index_rsl (id := id) (k := .i64) (len := n) (i := j) Try.underlying22 tycells45 (by omega) (by omega)
     have ib := index_rsl (id := id) (k := .i64) (len := n) (i := j - 1) Try.underlying22 tycells45 (by omega) (by omega)
     have la := getP hS1 (a := j) (by omega)
     have lb := getP hS1 (a := j - 1) (by omega)
     have hcall := hc.run (e j).1 (e (j - 1)).1 S1 k' hk
     simp [InIE, hS1e]
     rw [evDraw_go]
     ·by_cases hcm : c (e j).1 (e (j - 1)).1 < 0
      ·have s1 := stP hS1 (a := j) (by omega) (e (j - 1))
       have s2 := stP2 hS1 (a := j - 1) (b := j) (by omega) (e j) _ (upd_swp e j (j - 1))
       simp [c2, v1, ia, ib, la, lb, hcall, hcm]
       rw [evDraw_go]
       ·simp [v1, ia, ib, la, lb, s1, s2]
        have hlt : lex (fun x y => c x y < 0) (e j) (e (j - 1)) := .inl hcm
        refine ⟨⟨j - 1, swp e j (j - 1), pm2.trans (Perm.swp e (by omega) (by omega)), ins.step hj hlt, fun p p1 p2 p3 => ?_⟩, ?_, ?_⟩
        ·have q0 := pl
         unfold swp
         rw [if_neg (by omega : ¬ j - 1 = j), if_pos rfl]
         by_cases p4 : p = j
         ·rw [if_pos p4]; exact pl (j - 1) (by omega) (by omega) (by omega)
         ·rw [if_neg p4, if_neg p3]; exact pl p p1 p2 p4
        ·show j - 1 < j; omega
        ·simp [hS1e.symm, InIE]
       ·kernel_rfl
      ·simp [c2, v1, ia, ib, la, lb, hcall, hcm]
       exact ⟨j, e, _, _, _, _, _, _, _, _, _, _, _, _, _, _, _, _, _, pm2, ins.done (lex_ord hc.wo) (.inr (lex_else (pl (j - 1) (by omega) (by omega) (by omega)) hcm)), by simp [hS1e]; exact ⟨rfl, rfl, rfl, rfl, rfl, rfl, rfl, rfl, rfl, rfl, rfl, rfl, rfl, rfl, rfl, rfl, rfl⟩⟩
     ·kernel_rfl
    ·have c2 : ¬ (a : Int) < j := by omega
     simp [InIE, hS1e]
     rw [evDraw_go]
     ·simp [c2]
      have e1 : j = a := by omega
      exact ⟨j, e, _, _, _, _, _, _, _, _, _, _, _, _, _, _, _, _, _, pm2, ins.done (lex_ord hc.wo) (.inl e1), by simp [hS1e]; exact ⟨rfl, rfl, rfl, rfl, rfl, rfl, rfl, rfl, rfl, rfl, rfl, rfl, rfl, rfl, rfl, rfl, rfl⟩⟩
     ·kernel_rfl)
   clear hL2
   obtain ⟨j, e, x18, x19, x20, x21, x22, x23, x24, x25, x26, x27, x28, x29, x30, x31, x32, x33, x34, pm2, so2, he⟩ := hT2
   obtain ⟨rfl, rfl⟩ := Prod.mk.inj he
   have w2 : IntKind.i64.wrap ((i : Int) + 1) = ((i + 1 : Nat) : Int) := wrap_succ (n := n + 1) (by omega) (by omega)
   simp [w2, -Int.natCast_add]
   refine ⟨⟨i + 1, e, .int .i64 j, by omega, .inl (by omega), by rw [Nat.min_eq_left (by omega)]; exact pm2, by rw [Nat.min_eq_left (by omega)]; exact so2, fun q hq => pm2.out (by omega)⟩, ?_, ?_⟩
   ·show b + 1 - (i + 1) < b + 1 - i; omega
   ·simp [InOE]
  ·have c1 : ¬ (i : Int) < b := by omega
   simp [InOE, c1, InOT]
   rw [Nat.min_eq_right (by omega)] at pm so
   exact ⟨d, pm, so, rfl⟩)
 clear hL
 obtain ⟨d, pm, so, t1, t2, t3, t4⟩ := hT
 obtain ⟨env, defs, par, S2⟩ := st'
 simp only at t1 t2 t3 t4
 subst t1 t2 t3 t4
 exact ⟨d, pm, so, by simp⟩
theorem insP_call {n id g K k' : Nat} {c : PartV → PartV → Int} (hc : CmpP g K c) (hk : K ≤ k') (a b : Nat) (d0 : DP) (hn : n < 2 ^ 29) (hab : a ≤ b) (hb : b ≤ n) (hN : n + 1 < k') (hpl : SortedOn plt d0 a b) (hS : S.get id = some (arrD n d0)) (hK : SOK S) :
  ∃ d : DP, Perm a b d0 d ∧ SortedOn (lex fun x y => c x y < 0) d a b ∧ (handler Try.prog ppol (k' + 1)).call (.func 104) [.rsl id 2 0 n, .int .i64 a, .int .i64 b, .fn (.func g) [] []] S = some (.ret .undef, S.put id (arrD n d)) := by
 obtain ⟨d, h1, h2, h3⟩ := insP_run hc hk a b d0 hn hab hb hN hpl hS hK
 exact ⟨d, h1, h2, by rw [call_func (by rfl), h3]; rfl⟩
end Go.Ab.Seat
namespace Go.Ab.Seat
open Go.Proofs Srt
set_option maxRecDepth 100000
set_option maxHeartbeats 2000000
variable {H : Handler} {N : Nat} {S : Sto}
theorem rotD (d : DP) (m i j : Nat) : rot (fun k => (d k).1) m i j = fun k => (rot d m i j k).1 := by
 funext x
 unfold rot
 repeat' split
 all_goals rfl
theorem rotP_call {n id k : Nat} (d : DP) (a m b : Nat) (g : FuncId) (hn : n < 2 ^ 29) (ham : a < m) (hmb : m < b) (hb : b ≤ n) (hk : n + n + 2 < k) (hS : S.get id = some (arrD n d)) :
  (handler Try.prog ppol k).call (.func 108) [.rsl id 2 0 n, .int .i64 a, .int .i64 m, .int .i64 b, .fn (.func g) [] []] S = some (.ret .undef, S.put id (arrD n (rot d m (m - a) (b - m)))) := by
 obtain ⟨k', rfl⟩ : ∃ k', k = k' + 2 := ⟨k - 2, by omega⟩
 rw [call_func (by rfl), rotP_run (k' := k') (fun i => (d i).1) a m b g hn ham hmb hb (by omega) (by omega) hS, rotD]
 rfl
structure Sr (Q1 Q2 : Nat → Prop) (lo hi : Nat) where
 i : Nat
 j : Nat
 li : lo ≤ i
 ij : i ≤ j
 jh : j ≤ hi
 q1 : ∀ x, lo ≤ x → x < i → Q1 x
 q2 : ∀ x, j ≤ x → x < hi → Q2 x
theorem cv_iu (q : Nat) (h : q < 2 ^ 62) : convA Try.prog 3 100 (.int .i64 (q : Int)) = some (.int .u64 (q : Int)) := by
 simp [convA]
 exact Go.IntWalk.u64_in _ (by omega)
theorem cv_ui (q : Nat) (h : q < 2 ^ 62) : convA Try.prog 100 3 (.int .u64 (q : Int)) = some (.int .i64 (q : Int)) := by
 simp [convA]
 exact Go.IntWalk.i64_in _ (by omega)
theorem shr_u (q : Nat) : binA Try.prog .shr 100 true (.int .u64 (q : Int)) (.int .u64 1) = some (.int .u64 ((q / 2 : Nat) : Int)) := by
 have : (q : Int).fdiv 2 = ((q / 2 : Nat) : Int) := by rw [Int.fdiv_eq_ediv_of_nonneg _ (by omega)]; omega
 simp [binA, IntKind.bits, this]
abbrev lexC (c : PartV → PartV → Int) : PartV × Nat → PartV × Nat → Prop := lex fun x y => c x y < 0
def PL (d : DP) (a m b : Nat) : Prop := ∀ i j, a ≤ i → i < m → m ≤ j → j < b → (d i).2 < (d j).2
def SmE (S : Sto) (id n a m b : Nat) (g : FuncId) (d : DP) (l : List (Nat × AV)) : St :=
 { env := envOf 220 (l ++ [(0, .rsl id 2 0 n), (1, .int .i64 a), (2, .int .i64 m), (3, .int .i64 b), (4, .fn (.func g) [] []), (10, .undef), (11, .undef), (13, .undef), (14, .undef), (15, .undef), (17, .undef), (18, .undef), (19, .undef), (20, .undef), (21, .undef), (22, .undef)]), defs := [], par := .none, S := S.put id (arrD n d) }
theorem symP_left {n id g K k' : Nat} {c : PartV → PartV → Int} (hc : CmpP g K c) (hk : K ≤ k') (a b : Nat) (d : DP) (hn : n < 2 ^ 29) (hmb : a + 1 < b) (hb : b ≤ n) (hN : n + 1 < N)
  (h2 : SortedOn (lexC c) d (a + 1) b) (hp : PL d a (a + 1) b) (hS : S.get id = some (arrD n d)) (hK : SOK S) :
  ∃ d' : DP, Perm a b d d' ∧ SortedOn (lexC c) d' a b ∧ runFn Try.prog (handler Try.prog ppol k') N ppol 105 .none [.rsl id 2 0 n, .int .i64 a, .int .i64 (a + 1 : Nat), .int .i64 b, .fn (.func g) [] []] S = some (.ret .undef, .none, S.put id (arrD n d')) := by
 have o := lex_ord hc.wo
 rw [runFn_eq Try.func105 (by rfl)]
 have w1 : IntKind.i64.wrap (((a + 1 : Nat) : Int) - a) = 1 := by rw [show (((a + 1 : Nat) : Int) - a) = ((1 : Nat) : Int) by omega]; exact Go.IntWalk.i64_in _ (by omega)
 simp [Try.f105, w1, -Int.natCast_add]
 generalize hL : loopN _ _ _ _ = L
 obtain ⟨x, st', rfl, hT⟩ := loop_fam' hL (fun x : Sr (fun x => lexC c (d x) (d a)) (fun x => lexC c (d a) (d x)) (a + 1) b => SmE S id n a (a + 1) b g d [(10, .int .i64 x.i), (11, .int .i64 x.j)])
  (fun _ r => ∃ e, a + 1 ≤ e ∧ e ≤ b ∧ (∀ x, a + 1 ≤ x → x < e → lexC c (d x) (d a)) ∧ (∀ x, e ≤ x → x < b → lexC c (d a) (d x)) ∧
   r = (.exit 0, SmE S id n a (a + 1) b g d [(33, .bool false), (32, .int .i64 e), (31, .int .i64 e), (10, .int .i64 e), (11, .int .i64 e)])) (fun x => x.j - x.i)
  ⟨a + 1, b, by omega, by omega, by omega, fun _ _ _ => by omega, fun _ _ _ => by omega⟩ (by show b - (a + 1) < N; omega) (by simp [SmE, put_self hS, -Int.natCast_add]) (fun x => by
  obtain ⟨i, j, li, ij, jh, q1, q2⟩ := x
  clear hL
  have hS1 : (S.put id (arrD n d)).get id = some (arrD n d) := get_put_self hS
  obtain ⟨S1, hS1e⟩ : ∃ S1, S.put id (arrD n d) = S1 := ⟨_, rfl⟩
  rw [hS1e] at hS1
  have hK1 : SOK S1 := by rw [← hS1e]; exact hK.put (good_arrD _ _)
  by_cases hij : i < j
  ·have c1 : (i : Int) < j := by omega
   obtain ⟨h, hh⟩ : ∃ h, (i + j) / 2 = h := ⟨_, rfl⟩
   have wh : IntKind.i64.wrap ((i : Int) + j) = ((i + j : Nat) : Int) := by rw [← Int.natCast_add]; exact Go.IntWalk.i64_in _ (by omega)
   have v1 := cv_iu (i + j) (by omega)
   have v2 := shr_u (i + j)
   rw [hh] at v2
   have v3 := cv_ui h (by omega)
   have ia := index_rsl (id := id) (k := .i64) (len := n) (i := h) Try.underlying22 tycells45 (by omega) (by omega)
   have ib := index_rsl (id := id) (k := .i64) (len := n) (i := a) Try.underlying22 tycells45 (by omega) (by omega)
   have la := getP hS1 (a := h) (by omega)
   have lb := getP hS1 (a := a) (by omega)
   have hcall := hc.run (d h).1 (d a).1 S1 k' hk
   have hpl := hp a h (by omega) (by omega) (by omega) (by omega)
   simp [SmE, hS1e, c1, wh, v1, v2, v3, -Int.natCast_add]
   rw [evDraw_go]
   ·by_cases hcm : c (d h).1 (d a).1 < 0
    ·have w2 : IntKind.i64.wrap ((h : Int) + 1) = ((h + 1 : Nat) : Int) := wrap_succ (n := n + 1) (by omega) (by omega)
     have hlt : lexC c (d h) (d a) := .inl hcm
     simp [ia, ib, la, lb, hcall, hcm, w2, -Int.natCast_add]
     refine ⟨⟨h + 1, j, by omega, by omega, jh, fun x x1 x2 => ?_, q2⟩, ?_, ?_⟩
     ·by_cases e : x = h
      ·rw [e]; exact hlt
      ·exact o.tr _ _ _ (h2 x h x1 (by omega) (by omega)) hlt
     ·show j - (h + 1) < j - i; omega
     ·simp
    ·have hlt : lexC c (d a) (d h) := lex_else hpl hcm
     simp [ia, ib, la, lb, hcall, hcm, -Int.natCast_add]
     refine ⟨⟨i, h, li, by omega, by omega, q1, fun x x1 x2 => ?_⟩, ?_, ?_⟩
     ·by_cases e : x = h
      ·rw [e]; exact hlt
      ·exact o.tr _ _ _ hlt (h2 h x (by omega) (by omega) (by omega))
     ·show h - i < j - i; omega
     ·simp
   ·kernel_rfl
  ·have c1 : ¬ (i : Int) < j := by omega
   have e : i = j := by omega
   subst e
   simp [SmE, hS1e]
   exact ⟨i, li, jh, q1, q2, by simp⟩)
 clear hL
 obtain ⟨e, ae, eb, q1, q2, he⟩ := hT
 obtain ⟨rfl, rfl⟩ := Prod.mk.inj he
 clear he
 simp [SmE]
 refine ⟨rot d (a + 1) 1 (e - (a + 1)), Perm.rot d (by omega) (by omega) (by omega), ins_left h2 ae eb q1 q2, ?_⟩
 rw [loop_go (fun i => SmE S id n a (a + 1) b g (rot d (a + 1) 1 i) [(13, .int .i64 (a + i : Nat)), (10, .int .i64 e), (11, .int .i64 e)]) (e - (a + 1)) (by omega)]
 ·have c1 : ¬ (a : Int) + ((e - (a + 1) : Nat) : Int) < (e : Int) - 1 := by omega
  have w2 : IntKind.i64.wrap ((e : Int) - 1) = ((e - 1 : Nat) : Int) := by rw [show (e : Int) - 1 = ((e - 1 : Nat) : Int) by omega]; exact Go.IntWalk.i64_in _ (by omega)
  have c2 : ¬ (((a + (e - (a + 1)) : Nat) : Int) < ((e - 1 : Nat) : Int)) := by omega
  simp [SmE, w2, c2, -Int.natCast_add]
 ·simp [SmE, rot_zr]
 ·intro i hi
  have w2 : IntKind.i64.wrap ((e : Int) - 1) = ((e - 1 : Nat) : Int) := by rw [show (e : Int) - 1 = ((e - 1 : Nat) : Int) by omega]; exact Go.IntWalk.i64_in _ (by omega)
  have c2 : ((a + i : Nat) : Int) < ((e - 1 : Nat) : Int) := by omega
  have w3 : IntKind.i64.wrap (((a + i : Nat) : Int) + 1) = ((a + i + 1 : Nat) : Int) := wrap_succ (n := n + 1) (by omega) (by omega)
  obtain ⟨d1, hd1⟩ : ∃ d1, rot d (a + 1) 1 i = d1 := ⟨_, rfl⟩
  have hnext : rot d (a + 1) 1 (i + 1) = swp d1 (a + i) (a + i + 1) := by rw [← hd1]; exact (rot_fwd d a i).symm
  rw [hd1, hnext]
  have hS1 : (S.put id (arrD n d1)).get id = some (arrD n d1) := get_put_self hS
  obtain ⟨S1, hS1e⟩ : ∃ S1, S.put id (arrD n d1) = S1 := ⟨_, rfl⟩
  rw [hS1e] at hS1
  have hK1 : SOK S1 := by rw [← hS1e]; exact hK.put (good_arrD _ _)
  obtain ⟨q, hq⟩ : ∃ q, a + i = q := ⟨_, rfl⟩
  rw [hq] at c2 w3 ⊢
  have ia := index_rsl (id := id) (k := .i64) (len := n) (i := q) Try.underlying22 tycells45 (by omega) (by omega)
  have ib := index_rsl (id := id) (k := .i64) (len := n) (i := q + 1) Try.underlying22 tycells45 (by omega) (by omega)
  have la := getP hS1 (a := q) (by omega)
  have lb := getP hS1 (a := q + 1) (by omega)
  have s1 := stP hS1 (a := q) (by omega) (d1 (q + 1))
  have s2 := stP2 hS1 (a := q + 1) (b := q) (by omega) (d1 q) _ (upd_swp d1 q (q + 1))
  simp [SmE, hS1e, w2, c2, -Int.natCast_add]
  rw [evDraw_go]
  ·simp [w3, ia, ib, la, lb, s1, s2, -Int.natCast_add]
   simp [← hS1e, show a + (i + 1) = q + 1 by omega]
  ·kernel_rfl
end Go.Ab.Seat
namespace Go.Ab.Seat
open Go.Proofs Srt
set_option maxRecDepth 100000
set_option maxHeartbeats 2000000
variable {H : Handler} {N : Nat} {S : Sto}
theorem symP_right {n id g K k' : Nat} {c : PartV → PartV → Int} (hc : CmpP g K c) (hk : K ≤ k') (a m : Nat) (d : DP) (hn : n < 2 ^ 29) (ham : a + 1 < m) (hb : m + 1 ≤ n) (hN : n + 1 < N)
  (h1 : SortedOn (lexC c) d a m) (hp : PL d a m (m + 1)) (hS : S.get id = some (arrD n d)) (hK : SOK S) :
  ∃ d' : DP, Perm a (m + 1) d d' ∧ SortedOn (lexC c) d' a (m + 1) ∧ runFn Try.prog (handler Try.prog ppol k') N ppol 105 .none [.rsl id 2 0 n, .int .i64 a, .int .i64 m, .int .i64 (m + 1 : Nat), .fn (.func g) [] []] S = some (.ret .undef, .none, S.put id (arrD n d')) := by
 have o := lex_ord hc.wo
 rw [runFn_eq Try.func105 (by rfl)]
 have w0 : IntKind.i64.wrap ((m : Int) - a) = ((m - a : Nat) : Int) := by rw [show ((m : Int) - a) = ((m - a : Nat) : Int) by omega]; exact Go.IntWalk.i64_in _ (by omega)
 have w1 : IntKind.i64.wrap (((m + 1 : Nat) : Int) - m) = 1 := by rw [show (((m + 1 : Nat) : Int) - m) = ((1 : Nat) : Int) by omega]; exact Go.IntWalk.i64_in _ (by omega)
 have c0 : (((m - a : Nat) : Int) == 1) = false := by rw [beq_eq_false_iff_ne]; omega
 simp [Try.f105, w0, w1, c0, -Int.natCast_add]
 generalize hL : loopN _ _ _ _ = L
 obtain ⟨x, st', rfl, hT⟩ := loop_fam' hL (fun x : Sr (fun x => lexC c (d x) (d m)) (fun x => lexC c (d m) (d x)) a m => SmE S id n a m (m + 1) g d [(14, .int .i64 x.i), (15, .int .i64 x.j)])
  (fun _ r => ∃ e, a ≤ e ∧ e ≤ m ∧ (∀ x, a ≤ x → x < e → lexC c (d x) (d m)) ∧ (∀ x, e ≤ x → x < m → lexC c (d m) (d x)) ∧
   r = (.exit 4, SmE S id n a m (m + 1) g d [(85, .bool false), (84, .int .i64 e), (83, .int .i64 e), (14, .int .i64 e), (15, .int .i64 e)])) (fun x => x.j - x.i)
  ⟨a, m, by omega, by omega, by omega, fun _ _ _ => by omega, fun _ _ _ => by omega⟩ (by show m - a < N; omega) (by simp [SmE, put_self hS, -Int.natCast_add]) (fun x => by
  obtain ⟨i, j, li, ij, jh, q1, q2⟩ := x
  clear hL
  have hS1 : (S.put id (arrD n d)).get id = some (arrD n d) := get_put_self hS
  obtain ⟨S1, hS1e⟩ : ∃ S1, S.put id (arrD n d) = S1 := ⟨_, rfl⟩
  rw [hS1e] at hS1
  have hK1 : SOK S1 := by rw [← hS1e]; exact hK.put (good_arrD _ _)
  by_cases hij : i < j
  ·have c1 : (i : Int) < j := by omega
   obtain ⟨h, hh⟩ : ∃ h, (i + j) / 2 = h := ⟨_, rfl⟩
   have wh : IntKind.i64.wrap ((i : Int) + j) = ((i + j : Nat) : Int) := by rw [← Int.natCast_add]; exact Go.IntWalk.i64_in _ (by omega)
   have v1 := cv_iu (i + j) (by omega)
   have v2 := shr_u (i + j)
   rw [hh] at v2
   have v3 := cv_ui h (by omega)
   have ia := index_rsl (id := id) (k := .i64) (len := n) (i := m) Try.underlying22 tycells45 (by omega) (by omega)
   have ib := index_rsl (id := id) (k := .i64) (len := n) (i := h) Try.underlying22 tycells45 (by omega) (by omega)
   have la := getP hS1 (a := m) (by omega)
   have lb := getP hS1 (a := h) (by omega)
   have hcall := hc.run (d m).1 (d h).1 S1 k' hk
   have hpl := hp h m (by omega) (by omega) (by omega) (by omega)
   simp [SmE, hS1e, c1, wh, v1, v2, v3, -Int.natCast_add]
   rw [evDraw_go]
   ·by_cases hcm : c (d m).1 (d h).1 < 0
    ·have hlt : lexC c (d m) (d h) := .inl hcm
     simp [ia, ib, la, lb, hcall, hcm, -Int.natCast_add]
     refine ⟨⟨i, h, li, by omega, by omega, q1, fun x x1 x2 => ?_⟩, ?_, ?_⟩
     ·by_cases e : x = h
      ·rw [e]; exact hlt
      ·exact o.tr _ _ _ hlt (h1 h x (by omega) (by omega) (by omega))
     ·show h - i < j - i; omega
     ·simp
    ·have w2 : IntKind.i64.wrap ((h : Int) + 1) = ((h + 1 : Nat) : Int) := wrap_succ (n := n + 1) (by omega) (by omega)
     have hlt : lexC c (d h) (d m) := lex_else hpl hcm
     simp [ia, ib, la, lb, hcall, hcm, w2, -Int.natCast_add]
     refine ⟨⟨h + 1, j, by omega, by omega, jh, fun x x1 x2 => ?_, q2⟩, ?_, ?_⟩
     ·by_cases e : x = h
      ·rw [e]; exact hlt
      ·exact o.tr _ _ _ (h1 x h x1 (by omega) (by omega)) hlt
     ·show j - (h + 1) < j - i; omega
     ·simp
   ·kernel_rfl
  ·have c1 : ¬ (i : Int) < j := by omega
   have e : i = j := by omega
   subst e
   simp [SmE, hS1e]
   exact ⟨i, li, jh, q1, q2, by simp⟩)
 clear hL
 obtain ⟨e, ae, eb, q1, q2, he⟩ := hT
 obtain ⟨rfl, rfl⟩ := Prod.mk.inj he
 clear he
 simp [SmE]
 refine ⟨rot d m (m - e) 1, Perm.rot d (by omega) (by omega) (by omega), ins_right h1 ae eb q1 q2, ?_⟩
 rw [loop_go (fun i => SmE S id n a m (m + 1) g (rot d m i 1) [(17, .int .i64 (m - i : Nat)), (14, .int .i64 e), (15, .int .i64 e)]) (m - e) (by omega)]
 ·have c2 : ¬ ((e : Int) < ((m - (m - e) : Nat) : Int)) := by omega
  simp [SmE, c2, -Int.natCast_add]
 ·simp [SmE, rot_zl]
 ·intro i hi
  have c2 : ((e : Int) < ((m - i : Nat) : Int)) := by omega
  obtain ⟨d1, hd1⟩ : ∃ d1, rot d m i 1 = d1 := ⟨_, rfl⟩
  have hnext : rot d m (i + 1) 1 = swp d1 (m - i) (m - i - 1) := by rw [← hd1]; exact (rot_bwd d m i (by omega)).symm
  rw [hd1, hnext]
  have hS1 : (S.put id (arrD n d1)).get id = some (arrD n d1) := get_put_self hS
  obtain ⟨S1, hS1e⟩ : ∃ S1, S.put id (arrD n d1) = S1 := ⟨_, rfl⟩
  rw [hS1e] at hS1
  have hK1 : SOK S1 := by rw [← hS1e]; exact hK.put (good_arrD _ _)
  obtain ⟨q, hq⟩ : ∃ q, m - i = q := ⟨_, rfl⟩
  rw [hq] at c2 ⊢
  have w3 : IntKind.i64.wrap ((q : Int) - 1) = ((q - 1 : Nat) : Int) := by rw [show (q : Int) - 1 = ((q - 1 : Nat) : Int) by omega]; exact Go.IntWalk.i64_in _ (by omega)
  have ia := index_rsl (id := id) (k := .i64) (len := n) (i := q) Try.underlying22 tycells45 (by omega) (by omega)
  have ib := index_rsl (id := id) (k := .i64) (len := n) (i := q - 1) Try.underlying22 tycells45 (by omega) (by omega)
  have la := getP hS1 (a := q) (by omega)
  have lb := getP hS1 (a := q - 1) (by omega)
  have s1 := stP hS1 (a := q) (by omega) (d1 (q - 1))
  have s2 := stP2 hS1 (a := q - 1) (b := q) (by omega) (d1 q) _ (upd_swp d1 q (q - 1))
  simp [SmE, hS1e, c2, -Int.natCast_add]
  rw [evDraw_go]
  ·simp [w3, ia, ib, la, lb, s1, s2, -Int.natCast_add]
   simp [← hS1e, show m - (i + 1) = q - 1 by omega]
  ·kernel_rfl
end Go.Ab.Seat
namespace Go.Ab.Seat.Sy
open Go.Proofs Srt Go.Ab.Seat
set_option maxRecDepth 100000
set_option maxHeartbeats 1000000
variable {H : Handler} {N : Nat} {S : Sto}
def arrP (n : Nat) (f : Nat → SymV) : Obj := .arr 2 (tab n fun i => symRow (f i))
theorem writeP (p q : SymV) : writeCells Try.prog 64 0 (symRow p) (.agg (symRow q)) = some (symRow q) := by simp [writeCells, symRow]
theorem swapP_run {n id : Nat} (f : Nat → SymV) (a b k : Nat) (v : AV) (hn : n < 2 ^ 30) (hab : a + k ≤ b) (hb : b + k ≤ n) (hN : k < N) (hv : v.strip = v) {m : Nat} (hS : S.get id = some (arrP n f)) :
  runFn Try.prog (handler Try.prog ppol m) N ppol 111 .none [.rsl id 2 0 n, .int .i64 a, .int .i64 b, .int .i64 k, v] S = some (.ret .undef, .none, S.put id (arrP n (exch f a b k))) := by
 rw [runFn_eq Try.func111 (by rfl)]
 simp [Try.f111]
 rw [loop_go (fun i => { env := envOf 38 [(0, .rsl id 2 0 n), (1, .int .i64 a), (2, .int .i64 b), (3, .int .i64 k), (10, .int .i64 i)], defs := [], par := .none, S := S.put id (arrP n (exch f a b i)) }) k hN]
 ·simp
 ·simp [exch_zero, put_self hS]
 ·intro i hi
  have w1 : IntKind.i64.wrap ((i : Int) + 1) = (i : Int) + 1 := wrap_succ hi (by omega)
  have wa : IntKind.i64.wrap ((a : Int) + i) = ((a + i : Nat) : Int) := by rw [← Int.natCast_add]; exact Go.IntWalk.i64_in _ (by omega)
  have wb : IntKind.i64.wrap ((b : Int) + i) = ((b + i : Nat) : Int) := by rw [← Int.natCast_add]; exact Go.IntWalk.i64_in _ (by omega)
  obtain ⟨g, hg⟩ : ∃ g, exch f a b i = g := ⟨_, rfl⟩
  have hnext : exch f a b (i + 1) = swp g (a + i) (b + i) := by rw [← hg]; exact (exch_succ f a b i (by omega)).symm
  rw [hg, hnext]
  obtain ⟨S1, hS1⟩ : ∃ S1, S.put id (arrP n g) = S1 := ⟨_, rfl⟩
  have h1 : S1.get id = some (.arr 2 (tab n fun i => symRow (g i))) := by rw [← hS1]; exact get_put_self hS
  have ia := index_rsl (id := id) (k := .i64) (len := n) (i := a + i) Try.underlying23 tycells64 (by omega) (by omega)
  have ib := index_rsl (id := id) (k := .i64) (len := n) (i := b + i) Try.underlying23 tycells64 (by omega) (by omega)
  have ra := tab_get (fun i => symRow (g i)) (n := n) (i := a + i) (by omega)
  have rb := tab_get (fun i => symRow (g i)) (n := n) (i := b + i) (by omega)
  have la := fun env t off => loadA_aptr (P := Try.prog) (env := env) (t := t) (off := off) h1 ra
  have lb := fun env t off => loadA_aptr (P := Try.prog) (env := env) (t := t) (off := off) h1 rb
  have s1 := fun env defs par => storeS_put (P := Try.prog) (env := env) (defs := defs) (par := par) (t := 64) (off := 0) (v := .agg (symRow (g (b + i)))) h1 ra (by simpa using writeP _ _)
  have h2 : (S1.put id (.arr 2 ((tab n fun i => symRow (g i)).set (a + i) (symRow (g (b + i)))))).get id = some (.arr 2 ((tab n fun i => symRow (g i)).set (a + i) (symRow (g (b + i))))) := get_put_self h1
  have rb2 : ((tab n fun i => symRow (g i)).set (a + i) (symRow (g (b + i))))[b + i]? = some (symRow (g (b + i))) := by
   rw [List.getElem?_set]
   by_cases e : a + i = b + i
   ·rw [if_pos e, e, tab_len, if_pos (by omega)]
   ·rw [if_neg e]; exact rb
  have s2 := fun env defs par => storeS_put (P := Try.prog) (env := env) (defs := defs) (par := par) (t := 64) (off := 0) (v := .agg (symRow (g (a + i)))) h2 rb2 (by simpa using writeP _ _)
  have hfin : S1.put id (.arr 2 (((tab n fun i => symRow (g i)).set (a + i) (symRow (g (b + i)))).set (b + i) (symRow (g (a + i))))) = S.put id (arrP n (swp g (a + i) (b + i))) := by
   rw [← hS1, put_put]
   congr 1
   unfold arrP
   congr 1
   rw [tab_swap n (fun i => symRow (g i)) (a + i) (b + i)]
   congr 1
   funext x
   unfold swp
   repeat' split
   all_goals first | rfl | omega | (congr 2; omega)
  have c1 : (i : Int) < k := by omega
  simp [c1, hS1]
  rw [evDraw_go]
  ·simp [wa, wb, ia, ib, la, lb, s1, s2, hfin, w1, -Int.natCast_add]
  ·kernel_rfl
end Go.Ab.Seat.Sy
namespace Go.Ab.Seat.Sy
open Go.Proofs Srt Go.Ab.Seat
set_option maxRecDepth 100000
set_option maxHeartbeats 1000000
variable {H : Handler} {N : Nat} {S : Sto}
theorem swapP_call {n id k' : Nat} (f : Nat → SymV) (a b k : Nat) (v : AV) (hn : n < 2 ^ 30) (hab : a + k ≤ b) (hb : b + k ≤ n) (hN : k < k') (hv : v.strip = v) (hS : S.get id = some (arrP n f)) :
  (handler Try.prog ppol (k' + 1)).call (.func 111) [.rsl id 2 0 n, .int .i64 a, .int .i64 b, .int .i64 k, v] S = some (.ret .undef, S.put id (arrP n (exch f a b k))) := by
 rw [call_func (by rfl), swapP_run f a b k v hn hab hb hN hv hS]; rfl
structure RoI (f : Nat → SymV) (m i0 j0 : Nat) where
 i : Nat
 j : Nat
 g : Nat → SymV
 hi : 0 < i
 hj : 0 < j
 hii : i ≤ i0
 hjj : j ≤ j0
 hg : rot g m i j = rot f m i0 j0
def RoE (S : Sto) (id n : Nat) (v : AV) (f : Nat → SymV) (m i0 j0 : Nat) (x : RoI f m i0 j0) : St :=
 { env := envOf 58 [(0, .rsl id 2 0 n), (2, .int .i64 m), (4, v), (10, .int .i64 x.i), (11, .int .i64 x.j)], defs := [], par := .none, S := S.put id (arrP n x.g) }
def RoT (S : Sto) (id n : Nat) (v : AV) (f : Nat → SymV) (m i0 j0 : Nat) (r : AExit × St) : Prop := ∃ (i : Nat) (g : Nat → SymV), 0 < i ∧ i ≤ i0 ∧ i ≤ j0 ∧ rot g m i i = rot f m i0 j0 ∧
 r = (.exit 0, { env := envOf 58 [(18, .int .i64 i), (19, .int .i64 i), (20, .bool false), (0, .rsl id 2 0 n), (2, .int .i64 m), (4, v), (10, .int .i64 i), (11, .int .i64 i)], defs := [], par := .none, S := S.put id (arrP n g) })
theorem rotP_run {n id k' : Nat} (f : Nat → SymV) (a m b : Nat) (g : FuncId) (hn : n < 2 ^ 29) (ham : a < m) (hmb : m < b) (hb : b ≤ n) (hN : n + n < N) (hk : n < k') (hS : S.get id = some (arrP n f)) :
  runFn Try.prog (handler Try.prog ppol (k' + 1)) N ppol 109 .none [.rsl id 2 0 n, .int .i64 a, .int .i64 m, .int .i64 b, .fn (.func g) [] []] S = some (.ret .undef, .none, S.put id (arrP n (rot f m (m - a) (b - m)))) := by
 rw [runFn_eq Try.func109 (by rfl)]
 have w1 : IntKind.i64.wrap ((m : Int) - a) = ((m - a : Nat) : Int) := by rw [show (m : Int) - a = ((m - a : Nat) : Int) by omega]; exact Go.IntWalk.i64_in _ (by omega)
 have w2 : IntKind.i64.wrap ((b : Int) - m) = ((b - m : Nat) : Int) := by rw [show (b : Int) - m = ((b - m : Nat) : Int) by omega]; exact Go.IntWalk.i64_in _ (by omega)
 simp [Try.f109, w1, w2]
 generalize hL : loopN _ _ _ _ = L
 obtain ⟨x, st', rfl, hT⟩ := loop_fam' hL (RoE S id n (.fn (.func g) [] []) f m (m - a) (b - m)) (fun _ => RoT S id n (.fn (.func g) [] []) f m (m - a) (b - m)) (fun x => x.i + x.j) ⟨m - a, b - m, f, by omega, by omega, by omega, by omega, rfl⟩ (by show m - a + (b - m) < N; omega) (by simp [RoE, put_self hS]) (fun x => by
  obtain ⟨i, j, h, hi, hj, hii, hjj, hg⟩ := x
  clear hL
  have hS1 : (S.put id (arrP n h)).get id = some (arrP n h) := get_put_self hS
  have v1 : IntKind.i64.wrap ((m : Int) - i) = ((m - i : Nat) : Int) := by rw [show (m : Int) - i = ((m - i : Nat) : Int) by omega]; exact Go.IntWalk.i64_in _ (by omega)
  rcases Nat.lt_trichotomy i j with hij | hij | hij
  ·have c1 : ¬ i = j := by omega
   have c2 : ¬ (j : Int) < i := by omega
   have c3 : ¬ j < i := by omega
   have v2 : IntKind.i64.wrap ((m : Int) + j) = ((m + j : Nat) : Int) := by rw [← Int.natCast_add]; exact Go.IntWalk.i64_in _ (by omega)
   have v3 : IntKind.i64.wrap (((m + j : Nat) : Int) - i) = ((m + j - i : Nat) : Int) := by rw [show ((m + j : Nat) : Int) - i = ((m + j - i : Nat) : Int) by omega]; exact Go.IntWalk.i64_in _ (by omega)
   have v4 : IntKind.i64.wrap ((j : Int) - i) = ((j - i : Nat) : Int) := by rw [show (j : Int) - i = ((j - i : Nat) : Int) by omega]; exact Go.IntWalk.i64_in _ (by omega)
   have c := swapP_call (k' := k') h (m - i) (m + j - i) i (.fn (.func g) [] []) (by omega) (by omega) (by omega) (by omega) rfl hS1
   simp [RoE, c1, c2, v1, v2, v3, v4, c, -Int.natCast_add]
   refine ⟨⟨i, j - i, exch h (m - i) (m + j - i) i, hi, by omega, hii, by omega, by rw [rot_right h m i j (by omega) hij]; exact hg⟩, ?_, ⟨⟨rfl, rfl⟩, rfl⟩⟩
   show i + (j - i) < i + j; omega
  ·subst hij
   simp [RoE]
   exact ⟨i, h, hi, hii, hjj, hg, by simp⟩
  ·have c1 : ¬ i = j := by omega
   have c2 : (j : Int) < i := by omega
   have v4 : IntKind.i64.wrap ((i : Int) - j) = ((i - j : Nat) : Int) := by rw [show (i : Int) - j = ((i - j : Nat) : Int) by omega]; exact Go.IntWalk.i64_in _ (by omega)
   have c := swapP_call (k' := k') h (m - i) m j (.fn (.func g) [] []) (by omega) (by omega) (by omega) (by omega) rfl hS1
   simp [RoE, c1, c2, v1, v4, c, -Int.natCast_add]
   refine ⟨⟨i - j, j, exch h (m - i) m j, by omega, hj, by omega, hjj, by rw [rot_left h m i j (by omega) hij]; exact hg⟩, ?_, ⟨⟨rfl, rfl⟩, rfl⟩⟩
   show i - j + j < i + j; omega)
 clear hL
 obtain ⟨i, h, hi, hii, hjj, hg, e⟩ := hT
 obtain ⟨rfl, rfl⟩ := Prod.mk.inj e
 have hS1 : (S.put id (arrP n h)).get id = some (arrP n h) := get_put_self hS
 have v1 : IntKind.i64.wrap ((m : Int) - i) = ((m - i : Nat) : Int) := by rw [show (m : Int) - i = ((m - i : Nat) : Int) by omega]; exact Go.IntWalk.i64_in _ (by omega)
 have c := swapP_call (k' := k') h (m - i) m i (.fn (.func g) [] []) (by omega) (by omega) (by omega) (by omega) rfl hS1
 rw [rot_same h m i (by omega), hg] at c
 simp [v1, c, -Int.natCast_add]
end Go.Ab.Seat.Sy
namespace Go.Ab.Seat.Sy
open Go.Proofs Srt Go.Ab.Seat
set_option maxRecDepth 100000
set_option maxHeartbeats 1000000
variable {H : Handler} {N : Nat} {S : Sto}
structure CmpP (g : FuncId) (K : Nat) (c : SymV → SymV → Int) : Prop where
 run : ∀ (x y : SymV) (S : Sto) (k : Nat), K ≤ k → (handler Try.prog ppol k).call (.func g) [.agg (symRow x), .agg (symRow y)] S = some (.ret (.int .i64 (c x y)), S)
 wo : WO fun x y => c x y < 0
def upd {X : Type} (f : Nat → X) (a : Nat) (q : X) : Nat → X := fun k => if k = a then q else f k
theorem upd_swp {X : Type} (g : Nat → X) (i j : Nat) : upd (upd g i (g j)) j (g i) = swp g i j := by
 funext x
 unfold upd swp
 repeat' split
 all_goals first | rfl | omega | (subst_vars; rfl) | simp_all
abbrev DP := Nat → SymV × Nat
def arrD (n : Nat) (d : DP) : Obj := arrP n fun i => (d i).1
theorem getP {S1 : Sto} {id n a : Nat} {d : DP} (h : S1.get id = some (arrD n d)) (ha : a < n) (env : List AV) (t : TypeId) (off : Nat) : loadA Try.prog S1 env t (.aptr id a off) = valAt Try.prog t ((symRow (d a).1).drop off) :=
 loadA_aptr h (tab_get (fun i => symRow (d i).1) ha)
theorem stP {S1 : Sto} {id n a : Nat} {d : DP} (h : S1.get id = some (arrD n d)) (ha : a < n) (q : SymV × Nat) (env : List AV) (defs : List ADef) (par : AMode) :
  storeS Try.prog 64 (.aptr id a 0) (.agg (symRow q.1)) { env := env, defs := defs, par := par, S := S1 } = some (.val .undef { env := env, defs := defs, par := par, S := S1.put id (arrD n (upd d a q)) }) := by
 rw [storeS_put (row' := symRow q.1) h (tab_get (fun i => symRow (d i).1) ha) (by simpa using writeP _ _), tab_set]
 congr 4
 unfold arrD arrP
 congr 2
 funext k
 by_cases hk : k = a
 ·subst hk; simp [upd]
 ·simp [upd, hk]
theorem stP2 {S1 : Sto} {id n a b : Nat} {d : DP} (h : S1.get id = some (arrD n d)) (ha : a < n) (q : SymV × Nat) (d2 : DP) (h2 : upd (upd d b (d a)) a q = d2) (env : List AV) (defs : List ADef) (par : AMode) :
  storeS Try.prog 64 (.aptr id a 0) (.agg (symRow q.1)) { env := env, defs := defs, par := par, S := S1.put id (arrD n (upd d b (d a))) } = some (.val .undef { env := env, defs := defs, par := par, S := S1.put id (arrD n d2) }) := by
 rw [stP (get_put_self h) ha, put_put, h2]
theorem good_arrD (n : Nat) (d : DP) : goodO (arrD n d) = true := by
 unfold arrD arrP tab
 exact goodR (g := fun i => symRow (d i).1) (fun x => goodSym _) 2 _
def plt : SymV × Nat → SymV × Nat → Prop := fun x y => x.2 < y.2
structure InO (c : SymV → SymV → Int) (a b : Nat) (d0 : DP) where
 i : Nat
 d : DP
 x9 : AV
 ai : a < i
 ib : i ≤ b ∨ i = a + 1
 pm : Perm a (min i b) d0 d
 so : SortedOn (lex fun x y => c x y < 0) d a (min i b)
 fa : ∀ q, i ≤ q → d q = d0 q
def InOE (S : Sto) (id n : Nat) (a b : Nat) (g : FuncId) {c : SymV → SymV → Int} {d0 : DP} (x : InO c a b d0) : St :=
 { env := envOf 53 [(0, .rsl id 2 0 n), (1, .int .i64 a), (2, .int .i64 b), (3, .fn (.func g) [] []), (8, .int .i64 x.i), (9, x.x9)], defs := [], par := .none, S := S.put id (arrD n x.d) }
def InOT (S : Sto) (id n : Nat) (c : SymV → SymV → Int) (a b : Nat) (d0 : DP) (r : AExit × St) : Prop :=
 ∃ d : DP, Perm a b d0 d ∧ SortedOn (lex fun x y => c x y < 0) d a b ∧ r.1 = .exit 0 ∧ r.2.defs = [] ∧ r.2.par = .none ∧ r.2.S = S.put id (arrD n d)
structure InI (c : SymV → SymV → Int) (a i : Nat) (d0 : DP) where
 j : Nat
 d : DP
 pm : Perm a (i + 1) d0 d
 ins : Ins (lex fun x y => c x y < 0) d a i j
 pl : ∀ p, a ≤ p → p ≤ i → p ≠ j → (d p).2 < (d j).2
def InIE (S : Sto) (id n : Nat) (a b : Nat) (g : FuncId) {c : SymV → SymV → Int} {i : Nat} {d0 : DP} (x : InI c a i d0) : St :=
 { env := envOf 53 [(0, .rsl id 2 0 n), (1, .int .i64 a), (2, .int .i64 b), (3, .fn (.func g) [] []), (8, .int .i64 i), (9, .int .i64 x.j)], defs := [], par := .none, S := S.put id (arrD n x.d) }
def InIT (S : Sto) (id n : Nat) (c : SymV → SymV → Int) (a b : Nat) (g : FuncId) (i : Nat) (d0 : DP) (r : AExit × St) : Prop :=
 ∃ (j : Nat) (d : DP) (x18 x19 x20 x21 x22 x23 x24 x25 x26 x27 x28 x29 x30 x31 x32 x33 x34 : AV), Perm a (i + 1) d0 d ∧ SortedOn (lex fun x y => c x y < 0) d a (i + 1) ∧
  r = (.exit 2, { env := envOf 53 [(18, x18), (19, x19), (20, x20), (21, x21), (22, x22), (23, x23), (24, x24), (25, x25), (26, x26), (27, x27), (28, x28), (29, x29), (30, x30), (31, x31), (32, x32), (33, x33), (34, x34), (0, .rsl id 2 0 n), (1, .int .i64 a), (2, .int .i64 b), (3, .fn (.func g) [] []), (8, .int .i64 i), (9, .int .i64 j)], defs := [], par := .none, S := S.put id (arrD n d) })
theorem insP_run {n id g K k' : Nat} {c : SymV → SymV → Int} (hc : CmpP g K c) (hk : K ≤ k') (a b : Nat) (d0 : DP) (hn : n < 2 ^ 29) (hab : a ≤ b) (hb : b ≤ n) (hN : n + 1 < N) (hpl : SortedOn plt d0 a b) (hS : S.get id = some (arrD n d0)) (hK : SOK S) :
  ∃ d : DP, Perm a b d0 d ∧ SortedOn (lex fun x y => c x y < 0) d a b ∧ runFn Try.prog (handler Try.prog ppol k') N ppol 106 .none [.rsl id 2 0 n, .int .i64 a, .int .i64 b, .fn (.func g) [] []] S = some (.ret .undef, .none, S.put id (arrD n d)) := by
 rw [runFn_eq Try.func106 (by rfl)]
 have w1 : IntKind.i64.wrap ((a : Int) + 1) = ((a + 1 : Nat) : Int) := wrap_succ (n := n + 1) (by omega) (by omega)
 simp [Try.f106, w1, -Int.natCast_add]
 generalize hL : loopN _ _ _ _ = L
 obtain ⟨x, st', rfl, hT⟩ := loop_fam' hL (InOE S id n a b g (c := c) (d0 := d0)) (fun _ => InOT S id n c a b d0) (fun x => b + 1 - x.i) ⟨a + 1, d0, .undef, by omega, .inr rfl, Perm.refl _ _ _, fun i j _ _ _ => by omega, fun _ _ => rfl⟩ (by show b + 1 - (a + 1) < N; omega) (by simp [InOE, put_self hS, -Int.natCast_add]) (fun x => by
  obtain ⟨i, d, x9, ai, ib, pm, so, fa⟩ := x
  clear hL
  by_cases hi : i < b
  ·have c1 : (i : Int) < b := by omega
   simp [InOE, c1]
   generalize hL2 : loopN _ _ _ _ = L2
   have hd : ∀ q, i ≤ q → d q = d0 q := fa
   rw [Nat.min_eq_left (by omega)] at pm so
   have hpl2 : ∀ p, a ≤ p → p < i → (d p).2 < (d i).2 := fun p h1 h2 => by
    obtain ⟨y, y1, y2, y3⟩ := pm.from ⟨h1, h2⟩
    rw [y3, hd i (Nat.le_refl _)]
    exact hpl y i y1 y2 hi
   obtain ⟨y, st2, rfl, hT2⟩ := loop_fam' hL2 (InIE S id n a b g (c := c) (i := i) (d0 := d0)) (fun _ => InIT S id n c a b g i d0) (fun x => x.j) ⟨i, d, pm.mono (by omega) (by omega), Ins.start so (by omega), fun p h1 h2 h3 => hpl2 p h1 (by omega)⟩ (by show i < N; omega) (by simp [InIE]) (fun y => by
    obtain ⟨j, e, pm2, ins, pl⟩ := y
    clear hL2
    have aj := ins.aj
    have ji := ins.ji
    have hS1 : (S.put id (arrD n e)).get id = some (arrD n e) := get_put_self hS
    obtain ⟨S1, hS1e⟩ : ∃ S1, S.put id (arrD n e) = S1 := ⟨_, rfl⟩
    rw [hS1e] at hS1
    have hK1 : SOK S1 := by rw [← hS1e]; exact hK.put (good_arrD _ _)
    by_cases hj : a < j
    ·have c2 : (a : Int) < j := by omega
     have v1 : IntKind.i64.wrap ((j : Int) - 1) = ((j - 1 : Nat) : Int) := by rw [show (j : Int) - 1 = ((j - 1 : Nat) : Int) by omega]; exact Go.IntWalk.i64_in _ (by omega)
     have ia := index_rsl (id := id) (k := .i64) (len := n) (i := j) Try.underlying23 tycells64 (by omega) (by omega)
     have ib := index_rsl (id := id) (k := .i64) (len := n) (i := j - 1) Try.underlying23 tycells64 (by omega) (by omega)
     have la := getP hS1 (a := j) (by omega)
     have lb := getP hS1 (a := j - 1) (by omega)
     have hcall := hc.run (e j).1 (e (j - 1)).1 S1 k' hk
     simp [InIE, hS1e]
     rw [evDraw_go]
     ·by_cases hcm : c (e j).1 (e (j - 1)).1 < 0
      ·have s1 := stP hS1 (a := j) (by omega) (e (j - 1))
       have s2 := stP2 hS1 (a := j - 1) (b := j) (by omega) (e j) _ (upd_swp e j (j - 1))
       simp [c2, v1, ia, ib, la, lb, hcall, hcm]
       rw [evDraw_go]
       ·simp [v1, ia, ib, la, lb, s1, s2]
        have hlt : lex (fun x y => c x y < 0) (e j) (e (j - 1)) := .inl hcm
        refine ⟨⟨j - 1, swp e j (j - 1), pm2.trans (Perm.swp e (by omega) (by omega)), ins.step hj hlt, fun p p1 p2 p3 => ?_⟩, ?_, ?_⟩
        ·have q0 := pl
         unfold swp
         rw [if_neg (by omega : ¬ j - 1 = j), if_pos rfl]
         by_cases p4 : p = j
         ·rw [if_pos p4]; exact pl (j - 1) (by omega) (by omega) (by omega)
         ·rw [if_neg p4, if_neg p3]; exact pl p p1 p2 p4
        ·show j - 1 < j; omega
        ·simp [hS1e.symm, InIE]
       ·kernel_rfl
      ·simp [c2, v1, ia, ib, la, lb, hcall, hcm]
       exact ⟨j, e, _, _, _, _, _, _, _, _, _, _, _, _, _, _, _, _, _, pm2, ins.done (lex_ord hc.wo) (.inr (lex_else (pl (j - 1) (by omega) (by omega) (by omega)) hcm)), by simp [hS1e]; exact ⟨rfl, rfl, rfl, rfl, rfl, rfl, rfl, rfl, rfl, rfl, rfl, rfl, rfl, rfl, rfl, rfl, rfl⟩⟩
     ·kernel_rfl
    ·have c2 : ¬ (a : Int) < j := by omega
     simp [InIE, hS1e]
     rw [evDraw_go]
     ·simp [c2]
      have e1 : j = a := by omega
      exact ⟨j, e, _, _, _, _, _, _, _, _, _, _, _, _, _, _, _, _, _, pm2, ins.done (lex_ord hc.wo) (.inl e1), by simp [hS1e]; exact ⟨rfl, rfl, rfl, rfl, rfl, rfl, rfl, rfl, rfl, rfl, rfl, rfl, rfl, rfl, rfl, rfl, rfl⟩⟩
     ·kernel_rfl)
   clear hL2
   obtain ⟨j, e, x18, x19, x20, x21, x22, x23, x24, x25, x26, x27, x28, x29, x30, x31, x32, x33, x34, pm2, so2, he⟩ := hT2
   obtain ⟨rfl, rfl⟩ := Prod.mk.inj he
   have w2 : IntKind.i64.wrap ((i : Int) + 1) = ((i + 1 : Nat) : Int) := wrap_succ (n := n + 1) (by omega) (by omega)
   simp [w2, -Int.natCast_add]
   refine ⟨⟨i + 1, e, .int .i64 j, by omega, .inl (by omega), by rw [Nat.min_eq_left (by omega)]; exact pm2, by rw [Nat.min_eq_left (by omega)]; exact so2, fun q hq => pm2.out (by omega)⟩, ?_, ?_⟩
   ·show b + 1 - (i + 1) < b + 1 - i; omega
   ·simp [InOE]
  ·have c1 : ¬ (i : Int) < b := by omega
   simp [InOE, c1, InOT]
   rw [Nat.min_eq_right (by omega)] at pm so
   exact ⟨d, pm, so, rfl⟩)
 clear hL
 obtain ⟨d, pm, so, t1, t2, t3, t4⟩ := hT
 obtain ⟨env, defs, par, S2⟩ := st'
 simp only at t1 t2 t3 t4
 subst t1 t2 t3 t4
 exact ⟨d, pm, so, by simp⟩
theorem insP_call {n id g K k' : Nat} {c : SymV → SymV → Int} (hc : CmpP g K c) (hk : K ≤ k') (a b : Nat) (d0 : DP) (hn : n < 2 ^ 29) (hab : a ≤ b) (hb : b ≤ n) (hN : n + 1 < k') (hpl : SortedOn plt d0 a b) (hS : S.get id = some (arrD n d0)) (hK : SOK S) :
  ∃ d : DP, Perm a b d0 d ∧ SortedOn (lex fun x y => c x y < 0) d a b ∧ (handler Try.prog ppol (k' + 1)).call (.func 106) [.rsl id 2 0 n, .int .i64 a, .int .i64 b, .fn (.func g) [] []] S = some (.ret .undef, S.put id (arrD n d)) := by
 obtain ⟨d, h1, h2, h3⟩ := insP_run hc hk a b d0 hn hab hb hN hpl hS hK
 exact ⟨d, h1, h2, by rw [call_func (by rfl), h3]; rfl⟩
end Go.Ab.Seat.Sy
namespace Go.Ab.Seat.Sy
open Go.Proofs Srt Go.Ab.Seat
set_option maxRecDepth 100000
set_option maxHeartbeats 2000000
variable {H : Handler} {N : Nat} {S : Sto}
theorem rotD (d : DP) (m i j : Nat) : rot (fun k => (d k).1) m i j = fun k => (rot d m i j k).1 := by
 funext x
 unfold rot
 repeat' split
 all_goals rfl
theorem rotP_call {n id k : Nat} (d : DP) (a m b : Nat) (g : FuncId) (hn : n < 2 ^ 29) (ham : a < m) (hmb : m < b) (hb : b ≤ n) (hk : n + n + 2 < k) (hS : S.get id = some (arrD n d)) :
  (handler Try.prog ppol k).call (.func 109) [.rsl id 2 0 n, .int .i64 a, .int .i64 m, .int .i64 b, .fn (.func g) [] []] S = some (.ret .undef, S.put id (arrD n (rot d m (m - a) (b - m)))) := by
 obtain ⟨k', rfl⟩ : ∃ k', k = k' + 2 := ⟨k - 2, by omega⟩
 rw [call_func (by rfl), rotP_run (k' := k') (fun i => (d i).1) a m b g hn ham hmb hb (by omega) (by omega) hS, rotD]
 rfl
structure Sr (Q1 Q2 : Nat → Prop) (lo hi : Nat) where
 i : Nat
 j : Nat
 li : lo ≤ i
 ij : i ≤ j
 jh : j ≤ hi
 q1 : ∀ x, lo ≤ x → x < i → Q1 x
 q2 : ∀ x, j ≤ x → x < hi → Q2 x
theorem cv_iu (q : Nat) (h : q < 2 ^ 62) : convA Try.prog 3 100 (.int .i64 (q : Int)) = some (.int .u64 (q : Int)) := by
 simp [convA]
 exact Go.IntWalk.u64_in _ (by omega)
theorem cv_ui (q : Nat) (h : q < 2 ^ 62) : convA Try.prog 100 3 (.int .u64 (q : Int)) = some (.int .i64 (q : Int)) := by
 simp [convA]
 exact Go.IntWalk.i64_in _ (by omega)
theorem shr_u (q : Nat) : binA Try.prog .shr 100 true (.int .u64 (q : Int)) (.int .u64 1) = some (.int .u64 ((q / 2 : Nat) : Int)) := by
 have : (q : Int).fdiv 2 = ((q / 2 : Nat) : Int) := by rw [Int.fdiv_eq_ediv_of_nonneg _ (by omega)]; omega
 simp [binA, IntKind.bits, this]
abbrev lexC (c : SymV → SymV → Int) : SymV × Nat → SymV × Nat → Prop := lex fun x y => c x y < 0
def PL (d : DP) (a m b : Nat) : Prop := ∀ i j, a ≤ i → i < m → m ≤ j → j < b → (d i).2 < (d j).2
def SmE (S : Sto) (id n a m b : Nat) (g : FuncId) (d : DP) (l : List (Nat × AV)) : St :=
 { env := envOf 220 (l ++ [(0, .rsl id 2 0 n), (1, .int .i64 a), (2, .int .i64 m), (3, .int .i64 b), (4, .fn (.func g) [] []), (10, .undef), (11, .undef), (13, .undef), (14, .undef), (15, .undef), (17, .undef), (18, .undef), (19, .undef), (20, .undef), (21, .undef), (22, .undef)]), defs := [], par := .none, S := S.put id (arrD n d) }
theorem symP_left {n id g K k' : Nat} {c : SymV → SymV → Int} (hc : CmpP g K c) (hk : K ≤ k') (a b : Nat) (d : DP) (hn : n < 2 ^ 29) (hmb : a + 1 < b) (hb : b ≤ n) (hN : n + 1 < N)
  (h2 : SortedOn (lexC c) d (a + 1) b) (hp : PL d a (a + 1) b) (hS : S.get id = some (arrD n d)) (hK : SOK S) :
  ∃ d' : DP, Perm a b d d' ∧ SortedOn (lexC c) d' a b ∧ runFn Try.prog (handler Try.prog ppol k') N ppol 107 .none [.rsl id 2 0 n, .int .i64 a, .int .i64 (a + 1 : Nat), .int .i64 b, .fn (.func g) [] []] S = some (.ret .undef, .none, S.put id (arrD n d')) := by
 have o := lex_ord hc.wo
 rw [runFn_eq Try.func107 (by rfl)]
 have w1 : IntKind.i64.wrap (((a + 1 : Nat) : Int) - a) = 1 := by rw [show (((a + 1 : Nat) : Int) - a) = ((1 : Nat) : Int) by omega]; exact Go.IntWalk.i64_in _ (by omega)
 simp [Try.f107, w1, -Int.natCast_add]
 generalize hL : loopN _ _ _ _ = L
 obtain ⟨x, st', rfl, hT⟩ := loop_fam' hL (fun x : Sr (fun x => lexC c (d x) (d a)) (fun x => lexC c (d a) (d x)) (a + 1) b => SmE S id n a (a + 1) b g d [(10, .int .i64 x.i), (11, .int .i64 x.j)])
  (fun _ r => ∃ e, a + 1 ≤ e ∧ e ≤ b ∧ (∀ x, a + 1 ≤ x → x < e → lexC c (d x) (d a)) ∧ (∀ x, e ≤ x → x < b → lexC c (d a) (d x)) ∧
   r = (.exit 0, SmE S id n a (a + 1) b g d [(33, .bool false), (32, .int .i64 e), (31, .int .i64 e), (10, .int .i64 e), (11, .int .i64 e)])) (fun x => x.j - x.i)
  ⟨a + 1, b, by omega, by omega, by omega, fun _ _ _ => by omega, fun _ _ _ => by omega⟩ (by show b - (a + 1) < N; omega) (by simp [SmE, put_self hS, -Int.natCast_add]) (fun x => by
  obtain ⟨i, j, li, ij, jh, q1, q2⟩ := x
  clear hL
  have hS1 : (S.put id (arrD n d)).get id = some (arrD n d) := get_put_self hS
  obtain ⟨S1, hS1e⟩ : ∃ S1, S.put id (arrD n d) = S1 := ⟨_, rfl⟩
  rw [hS1e] at hS1
  have hK1 : SOK S1 := by rw [← hS1e]; exact hK.put (good_arrD _ _)
  by_cases hij : i < j
  ·have c1 : (i : Int) < j := by omega
   obtain ⟨h, hh⟩ : ∃ h, (i + j) / 2 = h := ⟨_, rfl⟩
   have wh : IntKind.i64.wrap ((i : Int) + j) = ((i + j : Nat) : Int) := by rw [← Int.natCast_add]; exact Go.IntWalk.i64_in _ (by omega)
   have v1 := cv_iu (i + j) (by omega)
   have v2 := shr_u (i + j)
   rw [hh] at v2
   have v3 := cv_ui h (by omega)
   have ia := index_rsl (id := id) (k := .i64) (len := n) (i := h) Try.underlying23 tycells64 (by omega) (by omega)
   have ib := index_rsl (id := id) (k := .i64) (len := n) (i := a) Try.underlying23 tycells64 (by omega) (by omega)
   have la := getP hS1 (a := h) (by omega)
   have lb := getP hS1 (a := a) (by omega)
   have hcall := hc.run (d h).1 (d a).1 S1 k' hk
   have hpl := hp a h (by omega) (by omega) (by omega) (by omega)
   simp [SmE, hS1e, c1, wh, v1, v2, v3, -Int.natCast_add]
   rw [evDraw_go]
   ·by_cases hcm : c (d h).1 (d a).1 < 0
    ·have w2 : IntKind.i64.wrap ((h : Int) + 1) = ((h + 1 : Nat) : Int) := wrap_succ (n := n + 1) (by omega) (by omega)
     have hlt : lexC c (d h) (d a) := .inl hcm
     simp [ia, ib, la, lb, hcall, hcm, w2, -Int.natCast_add]
     refine ⟨⟨h + 1, j, by omega, by omega, jh, fun x x1 x2 => ?_, q2⟩, ?_, ?_⟩
     ·by_cases e : x = h
      ·rw [e]; exact hlt
      ·exact o.tr _ _ _ (h2 x h x1 (by omega) (by omega)) hlt
     ·show j - (h + 1) < j - i; omega
     ·simp
    ·have hlt : lexC c (d a) (d h) := lex_else hpl hcm
     simp [ia, ib, la, lb, hcall, hcm, -Int.natCast_add]
     refine ⟨⟨i, h, li, by omega, by omega, q1, fun x x1 x2 => ?_⟩, ?_, ?_⟩
     ·by_cases e : x = h
      ·rw [e]; exact hlt
      ·exact o.tr _ _ _ hlt (h2 h x (by omega) (by omega) (by omega))
     ·show h - i < j - i; omega
     ·simp
   ·kernel_rfl
  ·have c1 : ¬ (i : Int) < j := by omega
   have e : i = j := by omega
   subst e
   simp [SmE, hS1e]
   exact ⟨i, li, jh, q1, q2, by simp⟩)
 clear hL
 obtain ⟨e, ae, eb, q1, q2, he⟩ := hT
 obtain ⟨rfl, rfl⟩ := Prod.mk.inj he
 clear he
 simp [SmE]
 refine ⟨rot d (a + 1) 1 (e - (a + 1)), Perm.rot d (by omega) (by omega) (by omega), ins_left h2 ae eb q1 q2, ?_⟩
 rw [loop_go (fun i => SmE S id n a (a + 1) b g (rot d (a + 1) 1 i) [(13, .int .i64 (a + i : Nat)), (10, .int .i64 e), (11, .int .i64 e)]) (e - (a + 1)) (by omega)]
 ·have c1 : ¬ (a : Int) + ((e - (a + 1) : Nat) : Int) < (e : Int) - 1 := by omega
  have w2 : IntKind.i64.wrap ((e : Int) - 1) = ((e - 1 : Nat) : Int) := by rw [show (e : Int) - 1 = ((e - 1 : Nat) : Int) by omega]; exact Go.IntWalk.i64_in _ (by omega)
  have c2 : ¬ (((a + (e - (a + 1)) : Nat) : Int) < ((e - 1 : Nat) : Int)) := by omega
  simp [SmE, w2, c2, -Int.natCast_add]
 ·simp [SmE, rot_zr]
 ·intro i hi
  have w2 : IntKind.i64.wrap ((e : Int) - 1) = ((e - 1 : Nat) : Int) := by rw [show (e : Int) - 1 = ((e - 1 : Nat) : Int) by omega]; exact Go.IntWalk.i64_in _ (by omega)
  have c2 : ((a + i : Nat) : Int) < ((e - 1 : Nat) : Int) := by omega
  have w3 : IntKind.i64.wrap (((a + i : Nat) : Int) + 1) = ((a + i + 1 : Nat) : Int) := wrap_succ (n := n + 1) (by omega) (by omega)
  obtain ⟨d1, hd1⟩ : ∃ d1, rot d (a + 1) 1 i = d1 := ⟨_, rfl⟩
  have hnext : rot d (a + 1) 1 (i + 1) = swp d1 (a + i) (a + i + 1) := by rw [← hd1]; exact (rot_fwd d a i).symm
  rw [hd1, hnext]
  have hS1 : (S.put id (arrD n d1)).get id = some (arrD n d1) := get_put_self hS
  obtain ⟨S1, hS1e⟩ : ∃ S1, S.put id (arrD n d1) = S1 := ⟨_, rfl⟩
  rw [hS1e] at hS1
  have hK1 : SOK S1 := by rw [← hS1e]; exact hK.put (good_arrD _ _)
  obtain ⟨q, hq⟩ : ∃ q, a + i = q := ⟨_, rfl⟩
  rw [hq] at c2 w3 ⊢
  have ia := index_rsl (id := id) (k := .i64) (len := n) (i := q) Try.underlying23 tycells64 (by omega) (by omega)
  have ib := index_rsl (id := id) (k := .i64) (len := n) (i := q + 1) Try.underlying23 tycells64 (by omega) (by omega)
  have la := getP hS1 (a := q) (by omega)
  have lb := getP hS1 (a := q + 1) (by omega)
  have s1 := stP hS1 (a := q) (by omega) (d1 (q + 1))
  have s2 := stP2 hS1 (a := q + 1) (b := q) (by omega) (d1 q) _ (upd_swp d1 q (q + 1))
  simp [SmE, hS1e, w2, c2, -Int.natCast_add]
  rw [evDraw_go]
  ·simp [w3, ia, ib, la, lb, s1, s2, -Int.natCast_add]
   simp [← hS1e, show a + (i + 1) = q + 1 by omega]
  ·kernel_rfl
end Go.Ab.Seat.Sy
namespace Go.Ab.Seat.Sy
open Go.Proofs Srt Go.Ab.Seat
set_option maxRecDepth 100000
set_option maxHeartbeats 2000000
variable {H : Handler} {N : Nat} {S : Sto}
theorem symP_right {n id g K k' : Nat} {c : SymV → SymV → Int} (hc : CmpP g K c) (hk : K ≤ k') (a m : Nat) (d : DP) (hn : n < 2 ^ 29) (ham : a + 1 < m) (hb : m + 1 ≤ n) (hN : n + 1 < N)
  (h1 : SortedOn (lexC c) d a m) (hp : PL d a m (m + 1)) (hS : S.get id = some (arrD n d)) (hK : SOK S) :
  ∃ d' : DP, Perm a (m + 1) d d' ∧ SortedOn (lexC c) d' a (m + 1) ∧ runFn Try.prog (handler Try.prog ppol k') N ppol 107 .none [.rsl id 2 0 n, .int .i64 a, .int .i64 m, .int .i64 (m + 1 : Nat), .fn (.func g) [] []] S = some (.ret .undef, .none, S.put id (arrD n d')) := by
 have o := lex_ord hc.wo
 rw [runFn_eq Try.func107 (by rfl)]
 have w0 : IntKind.i64.wrap ((m : Int) - a) = ((m - a : Nat) : Int) := by rw [show ((m : Int) - a) = ((m - a : Nat) : Int) by omega]; exact Go.IntWalk.i64_in _ (by omega)
 have w1 : IntKind.i64.wrap (((m + 1 : Nat) : Int) - m) = 1 := by rw [show (((m + 1 : Nat) : Int) - m) = ((1 : Nat) : Int) by omega]; exact Go.IntWalk.i64_in _ (by omega)
 have c0 : (((m - a : Nat) : Int) == 1) = false := by rw [beq_eq_false_iff_ne]; omega
 simp [Try.f107, w0, w1, c0, -Int.natCast_add]
 generalize hL : loopN _ _ _ _ = L
 obtain ⟨x, st', rfl, hT⟩ := loop_fam' hL (fun x : Sr (fun x => lexC c (d x) (d m)) (fun x => lexC c (d m) (d x)) a m => SmE S id n a m (m + 1) g d [(14, .int .i64 x.i), (15, .int .i64 x.j)])
  (fun _ r => ∃ e, a ≤ e ∧ e ≤ m ∧ (∀ x, a ≤ x → x < e → lexC c (d x) (d m)) ∧ (∀ x, e ≤ x → x < m → lexC c (d m) (d x)) ∧
   r = (.exit 4, SmE S id n a m (m + 1) g d [(85, .bool false), (84, .int .i64 e), (83, .int .i64 e), (14, .int .i64 e), (15, .int .i64 e)])) (fun x => x.j - x.i)
  ⟨a, m, by omega, by omega, by omega, fun _ _ _ => by omega, fun _ _ _ => by omega⟩ (by show m - a < N; omega) (by simp [SmE, put_self hS, -Int.natCast_add]) (fun x => by
  obtain ⟨i, j, li, ij, jh, q1, q2⟩ := x
  clear hL
  have hS1 : (S.put id (arrD n d)).get id = some (arrD n d) := get_put_self hS
  obtain ⟨S1, hS1e⟩ : ∃ S1, S.put id (arrD n d) = S1 := ⟨_, rfl⟩
  rw [hS1e] at hS1
  have hK1 : SOK S1 := by rw [← hS1e]; exact hK.put (good_arrD _ _)
  by_cases hij : i < j
  ·have c1 : (i : Int) < j := by omega
   obtain ⟨h, hh⟩ : ∃ h, (i + j) / 2 = h := ⟨_, rfl⟩
   have wh : IntKind.i64.wrap ((i : Int) + j) = ((i + j : Nat) : Int) := by rw [← Int.natCast_add]; exact Go.IntWalk.i64_in _ (by omega)
   have v1 := cv_iu (i + j) (by omega)
   have v2 := shr_u (i + j)
   rw [hh] at v2
   have v3 := cv_ui h (by omega)
   have ia := index_rsl (id := id) (k := .i64) (len := n) (i := m) Try.underlying23 tycells64 (by omega) (by omega)
   have ib := index_rsl (id := id) (k := .i64) (len := n) (i := h) Try.underlying23 tycells64 (by omega) (by omega)
   have la := getP hS1 (a := m) (by omega)
   have lb := getP hS1 (a := h) (by omega)
   have hcall := hc.run (d m).1 (d h).1 S1 k' hk
   have hpl := hp h m (by omega) (by omega) (by omega) (by omega)
   simp [SmE, hS1e, c1, wh, v1, v2, v3, -Int.natCast_add]
   rw [evDraw_go]
   ·by_cases hcm : c (d m).1 (d h).1 < 0
    ·have hlt : lexC c (d m) (d h) := .inl hcm
     simp [ia, ib, la, lb, hcall, hcm, -Int.natCast_add]
     refine ⟨⟨i, h, li, by omega, by omega, q1, fun x x1 x2 => ?_⟩, ?_, ?_⟩
     ·by_cases e : x = h
      ·rw [e]; exact hlt
      ·exact o.tr _ _ _ hlt (h1 h x (by omega) (by omega) (by omega))
     ·show h - i < j - i; omega
     ·simp
    ·have w2 : IntKind.i64.wrap ((h : Int) + 1) = ((h + 1 : Nat) : Int) := wrap_succ (n := n + 1) (by omega) (by omega)
     have hlt : lexC c (d h) (d m) := lex_else hpl hcm
     simp [ia, ib, la, lb, hcall, hcm, w2, -Int.natCast_add]
     refine ⟨⟨h + 1, j, by omega, by omega, jh, fun x x1 x2 => ?_, q2⟩, ?_, ?_⟩
     ·by_cases e : x = h
      ·rw [e]; exact hlt
      ·exact o.tr _ _ _ (h1 x h x1 (by omega) (by omega)) hlt
     ·show j - (h + 1) < j - i; omega
     ·simp
   ·kernel_rfl
  ·have c1 : ¬ (i : Int) < j := by omega
   have e : i = j := by omega
   subst e
   simp [SmE, hS1e]
   exact ⟨i, li, jh, q1, q2, by simp⟩)
 clear hL
 obtain ⟨e, ae, eb, q1, q2, he⟩ := hT
 obtain ⟨rfl, rfl⟩ := Prod.mk.inj he
 clear he
 simp [SmE]
 refine ⟨rot d m (m - e) 1, Perm.rot d (by omega) (by omega) (by omega), ins_right h1 ae eb q1 q2, ?_⟩
 rw [loop_go (fun i => SmE S id n a m (m + 1) g (rot d m i 1) [(17, .int .i64 (m - i : Nat)), (14, .int .i64 e), (15, .int .i64 e)]) (m - e) (by omega)]
 ·have c2 : ¬ ((e : Int) < ((m - (m - e) : Nat) : Int)) := by omega
  simp [SmE, c2, -Int.natCast_add]
 ·simp [SmE, rot_zl]
 ·intro i hi
  have c2 : ((e : Int) < ((m - i : Nat) : Int)) := by omega
  obtain ⟨d1, hd1⟩ : ∃ d1, rot d m i 1 = d1 := ⟨_, rfl⟩
  have hnext : rot d m (i + 1) 1 = swp d1 (m - i) (m - i - 1) := by rw [← hd1]; exact (rot_bwd d m i (by omega)).symm
  rw [hd1, hnext]
  have hS1 : (S.put id (arrD n d1)).get id = some (arrD n d1) := get_put_self hS
  obtain ⟨S1, hS1e⟩ : ∃ S1, S.put id (arrD n d1) = S1 := ⟨_, rfl⟩
  rw [hS1e] at hS1
  have hK1 : SOK S1 := by rw [← hS1e]; exact hK.put (good_arrD _ _)
  obtain ⟨q, hq⟩ : ∃ q, m - i = q := ⟨_, rfl⟩
  rw [hq] at c2 ⊢
  have w3 : IntKind.i64.wrap ((q : Int) - 1) = ((q - 1 : Nat) : Int) := by rw [show (q : Int) - 1 = ((q - 1 : Nat) : Int) by omega]; exact Go.IntWalk.i64_in _ (by omega)
  have ia := index_rsl (id := id) (k := .i64) (len := n) (i := q) Try.underlying23 tycells64 (by omega) (by omega)
  have ib := index_rsl (id := id) (k := .i64) (len := n) (i := q - 1) Try.underlying23 tycells64 (by omega) (by omega)
  have la := getP hS1 (a := q) (by omega)
  have lb := getP hS1 (a := q - 1) (by omega)
  have s1 := stP hS1 (a := q) (by omega) (d1 (q - 1))
  have s2 := stP2 hS1 (a := q - 1) (b := q) (by omega) (d1 q) _ (upd_swp d1 q (q - 1))
  simp [SmE, hS1e, c2, -Int.natCast_add]
  rw [evDraw_go]
  ·simp [w3, ia, ib, la, lb, s1, s2, -Int.natCast_add]
   simp [← hS1e, show m - (i + 1) = q - 1 by omega]
  ·kernel_rfl
end Go.Ab.Seat.Sy
