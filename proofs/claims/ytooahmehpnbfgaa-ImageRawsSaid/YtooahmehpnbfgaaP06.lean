import Derived.Test.YtooahmehpnbfgaaP05
/- The reference's names are the program's. -/
namespace Go.Ab.Seat
open Go.Proofs
set_option maxRecDepth 100000
set_option maxHeartbeats 1000000
variable {H : Handler} {N : Nat} {S : Sto}
def opN (k : Nat) : List UInt8 := (rowsL[k]?.map (·.1)).getD []
theorem opName_run : ∀ k : Nat, k < 28 → runFn Try.prog H N ppol 96 .none [.int .i64 ((k : Int) + 1)] S = some (.ret (.str (opN (k + 1))), .none, S)
  | 0, _ => by kernel_rfl
  | 1, _ => by kernel_rfl
  | 2, _ => by kernel_rfl
  | 3, _ => by kernel_rfl
  | 4, _ => by kernel_rfl
  | 5, _ => by kernel_rfl
  | 6, _ => by kernel_rfl
  | 7, _ => by kernel_rfl
  | 8, _ => by kernel_rfl
  | 9, _ => by kernel_rfl
  | 10, _ => by kernel_rfl
  | 11, _ => by kernel_rfl
  | 12, _ => by kernel_rfl
  | 13, _ => by kernel_rfl
  | 14, _ => by kernel_rfl
  | 15, _ => by kernel_rfl
  | 16, _ => by kernel_rfl
  | 17, _ => by kernel_rfl
  | 18, _ => by kernel_rfl
  | 19, _ => by kernel_rfl
  | 20, _ => by kernel_rfl
  | 21, _ => by kernel_rfl
  | 22, _ => by kernel_rfl
  | 23, _ => by kernel_rfl
  | 24, _ => by kernel_rfl
  | 25, _ => by kernel_rfl
  | 26, _ => by kernel_rfl
  | 27, _ => by kernel_rfl
  | k + 28, h => absurd h (by omega)
theorem opName_call {n : Nat} {k : Nat} (h : k < 28) : (handler Try.prog ppol (n + 1)).call (.func 96) [.int .i64 ((k : Int) + 1)] S = some (.ret (.str (opN (k + 1))), S) := by
  rw [call_func (by rfl), opName_run k h]; rfl
theorem isNum_iff (s : List UInt8) : isNum s = true ↔ ∃ k, k < 28 ∧ opN (k + 1) = s := by
  have hlen : rowsL.length = 29 := rfl
  unfold isNum
  rw [List.any_eq_true]
  constructor
  · rintro ⟨r, hr, he⟩
    obtain ⟨i, hi⟩ := List.mem_iff_getElem?.1 hr
    rw [List.getElem?_drop] at hi
    have hlt := (List.getElem?_eq_some_iff.1 hi).1
    refine ⟨i, by omega, ?_⟩
    unfold opN
    rw [Nat.add_comm i 1, hi]
    simpa using he
  · rintro ⟨k, hk, he⟩
    have hlt : k + 1 < rowsL.length := by omega
    refine ⟨rowsL[k + 1], ?_, ?_⟩
    · exact List.mem_iff_getElem?.2 ⟨k, by rw [List.getElem?_drop, Nat.add_comm 1 k]; exact List.getElem?_eq_getElem hlt⟩
    · unfold opN at he
      rw [List.getElem?_eq_getElem hlt] at he
      simpa using he
theorem opOf_run {n : Nat} (s : List UInt8) (hN : 29 < N) : ∃ r : Int, runFn Try.prog (handler Try.prog ppol (n + 1)) N ppol 79 .none [.str s] S = some (.ret (.int .i64 r), .none, S) ∧ (0 < r ↔ isNum s = true) := by
  rcases first_or_all (fun k => opN (k + 1) = s) 28 with ⟨m, h1, h2, h3⟩ | h
  · refine ⟨(m : Int) + 1, ?_, ?_⟩
    · rw [runFn_eq Try.func79 (by rfl)]
      simp [Try.f79]
      rw [loop_go (fun k => { env := envOf 13 [(0, .str s), (3, .int .i64 ((k : Int) + 1))], defs := [], par := .none, S := S }) m (by omega)]
      · have e1 : (m : Int) + 1 ≤ 28 := by omega
        have c := opName_call (n := n) (S := S) h1
        rw [h2] at c
        simp [e1, c]
      · simp
      · intro k hk
        have e1 : (k : Int) + 1 ≤ 28 := by omega
        have c := opName_call (n := n) (S := S) (k := k) (by omega)
        have hne : (opN (k + 1) == s) = false := by rw [beq_eq_false_iff_ne]; exact h3 k hk
        have w : IntKind.i64.wrap ((k : Int) + 1 + 1) = (k : Int) + 1 + 1 := Go.IntWalk.i64_in _ (by omega)
        simp [e1, c, hne, w]
    · constructor
      · intro _; exact (isNum_iff s).2 ⟨m, h1, h2⟩
      · intro _; omega
  · refine ⟨0, ?_, ?_⟩
    · rw [runFn_eq Try.func79 (by rfl)]
      simp [Try.f79]
      rw [loop_go (fun k => { env := envOf 13 [(0, .str s), (3, .int .i64 ((k : Int) + 1))], defs := [], par := .none, S := S }) 28 (by omega)]
      · simp
      · simp
      · intro k hk
        have e1 : (k : Int) + 1 ≤ 28 := by omega
        have c := opName_call (n := n) (S := S) (k := k) (by omega)
        have hne : (opN (k + 1) == s) = false := by rw [beq_eq_false_iff_ne]; exact h k hk
        have w : IntKind.i64.wrap ((k : Int) + 1 + 1) = (k : Int) + 1 + 1 := Go.IntWalk.i64_in _ (by omega)
        simp [e1, c, hne, w]
    · constructor
      · intro h0; omega
      · intro hn
        obtain ⟨k, hk, he⟩ := (isNum_iff s).1 hn
        exact absurd he (h k hk)
def lowB (b : UInt8) : Bool := decide (97 ≤ b.toNat) && decide (b.toNat ≤ 122)
def digB (b : UInt8) : Bool := decide (48 ≤ b.toNat) && decide (b.toNat ≤ 57)
theorem letter_run (b : UInt8) : runFn Try.prog H N ppol 78 .none [.int .u8 b.toNat] S = some (.ret (.bool (lowB b)), .none, S) := by
  rw [runFn_eq Try.func78 (by rfl)]
  unfold lowB
  have e1 : ((97 : Int) ≤ b.toNat) = (97 ≤ b.toNat) := by rw [eq_iff_iff]; omega
  have e2 : ((b.toNat : Int) ≤ 122) = (b.toNat ≤ 122) := by rw [eq_iff_iff]; omega
  by_cases h1 : 97 ≤ b.toNat <;> by_cases h2 : b.toNat ≤ 122 <;> simp [Try.f78, e1, e2, h1, h2]
theorem letter_call {n : Nat} (b : UInt8) : (handler Try.prog ppol (n + 1)).call (.func 78) [.int .u8 b.toNat] S = some (.ret (.bool (lowB b)), S) := by
  rw [call_func (by rfl), letter_run]; rfl
theorem digit_run (b : UInt8) : runFn Try.prog H N ppol 81 .none [.int .u8 b.toNat] S = some (.ret (.bool (digB b)), .none, S) := by
  rw [runFn_eq Try.func81 (by rfl)]
  unfold digB
  have e1 : ((48 : Int) ≤ b.toNat) = (48 ≤ b.toNat) := by rw [eq_iff_iff]; omega
  have e2 : ((b.toNat : Int) ≤ 57) = (b.toNat ≤ 57) := by rw [eq_iff_iff]; omega
  by_cases h1 : 48 ≤ b.toNat <;> by_cases h2 : b.toNat ≤ 57 <;> simp [Try.f81, e1, e2, h1, h2]
theorem digit_call {n : Nat} (b : UInt8) : (handler Try.prog ppol (n + 1)).call (.func 81) [.int .u8 b.toNat] S = some (.ret (.bool (digB b)), S) := by
  rw [call_func (by rfl), digit_run]; rfl
theorem regR_run (s : List UInt8) (hs : s.length < 2 ^ 62) : runFn Try.prog H N ppol 80 .none [.str s] S = some (.ret (.int .i64 (regOf s)), .none, S) := by
  rw [runFn_eq Try.func80 (by rfl)]
  by_cases h2 : s.length = 2
  · obtain ⟨a, b, rfl⟩ : ∃ a b, s = [a, b] := by
      match s, h2 with
      | [a, b], _ => exact ⟨a, b, rfl⟩
    have hb := b.toNat_lt
    by_cases h3 : a.toNat = 114
    · have e3 : ((a.toNat : Int) == 114) = true := by rw [beq_iff_eq]; omega
      by_cases h4 : b.toNat < 48
      · have e4 : ¬ (48 : Int) ≤ b.toNat := by omega
        simp [Try.f80, indexA, e4, regOf, h3]; omega
      · have e4 : (48 : Int) ≤ b.toNat := by omega
        by_cases h5 : 55 < b.toNat
        · have e5 : ¬ (b.toNat : Int) ≤ 55 := by omega
          simp [Try.f80, indexA, e4, e5, regOf, h3]; omega
        · have e5 : (b.toNat : Int) ≤ 55 := by omega
          have e6 : IntKind.u8.wrap ((b.toNat : Int) - 48) = (b.toNat : Int) - 48 := Go.IntWalk.u8_in _ (by omega)
          have e7 : IntKind.i64.wrap ((b.toNat : Int) - 48) = (b.toNat : Int) - 48 := Go.IntWalk.i64_in _ (by omega)
          simp [Try.f80, indexA, e4, e5, e6, e7, convA, regOf, h3]; omega
    · have e3 : ((a.toNat : Int) == 114) = false := by rw [beq_eq_false_iff_ne]; omega
      simp [Try.f80, indexA, e3, regOf, h3]
  · have e2 : ((s.length : Int) == 2) = false := by rw [beq_eq_false_iff_ne]; omega
    have : regOf s = -1 := by
      unfold regOf
      split
      · exact absurd rfl h2
      · rfl
    simp [Try.f80, e2, this]
theorem regR_call {n : Nat} (s : List UInt8) (hs : s.length < 2 ^ 62) : (handler Try.prog ppol (n + 1)).call (.func 80) [.str s] S = some (.ret (.int .i64 (regOf s)), S) := by
  rw [call_func (by rfl), regR_run s hs]; rfl
def bOk (b : UInt8) : Bool := lowB b || digB b
theorem odd_byte (b : UInt8) : oddOf (b.toNat : Int) = !bOk b := by
  unfold oddOf bOk lowB digB
  have hb := b.toNat_lt
  by_cases h1 : 97 ≤ b.toNat <;> by_cases h2 : b.toNat ≤ 122 <;> by_cases h3 : 48 ≤ b.toNat <;> by_cases h4 : b.toNat ≤ 57 <;> simp [h1, h2, h3, h4] <;> omega
theorem scan_all (s : ByteArray) : ∀ (n p : Nat), s.size ≤ p + n → (scanOf s n p < 0 ↔ ∀ i, p ≤ i → (h : i < s.size) → bOk (s[i]'h) = true)
  | 0, p, hn => by
    constructor
    · intro _ i hi h; omega
    · intro _; show (-1 : Int) < 0; omega
  | n + 1, p, hn => by
    by_cases hp : p < s.size
    · by_cases ha : (s[p]'hp).toNat < 128
      · have hd := decode_ascii s p hp ha
        cases hb : bOk (s[p]'hp)
        · have ho : oddOf ((s[p]'hp).toNat : Int) = true := by rw [odd_byte, hb]; rfl
          have hs : scanOf s (n + 1) p = p := by simp [scanOf, hp, hd, ho]
          rw [hs]
          constructor
          · intro h; omega
          · intro h; have := h p (Nat.le_refl _) hp; rw [hb] at this; cases this
        · have ho : oddOf ((s[p]'hp).toNat : Int) = false := by rw [odd_byte, hb]; rfl
          have hs : scanOf s (n + 1) p = scanOf s n (p + 1) := by simp [scanOf, hp, hd, ho]
          rw [hs, scan_all s n (p + 1) (by omega)]
          constructor
          · intro h i hi hlt
            by_cases e : i = p
            · subst e; exact hb
            · exact h i (by omega) hlt
          · intro h i hi hlt; exact h i (by omega) hlt
      · have hd := (decode_high s p hp (by omega)).1
        have ho : oddOf ((Utf8.decode s p).1 : Int) = true := by
          have h1 : (122 : Int) < (Utf8.decode s p).1 := by omega
          have h2 : (57 : Int) < (Utf8.decode s p).1 := by omega
          simp [oddOf, h1, h2]
        have hs : scanOf s (n + 1) p = p := by simp [scanOf, hp, ho]
        rw [hs]
        constructor
        · intro h; omega
        · intro h
          have := h p (Nat.le_refl _) hp
          unfold bOk lowB digB at this
          simp only [Bool.or_eq_true, Bool.and_eq_true, decide_eq_true_eq] at this
          omega
    · have hs : scanOf s (n + 1) p = -1 := scan_end _ hp
      rw [hs]
      constructor
      · intro _ i hi h; omega
      · intro _; omega
theorem scan_str (s : List UInt8) : decide (scanOf ⟨s.toArray⟩ s.length 0 < 0) = s.all bOk := by
  have h := scan_all ⟨s.toArray⟩ s.length 0 (by simp [ByteArray.size])
  rw [Bool.eq_iff_iff, decide_eq_true_iff, h, List.all_eq_true]
  constructor
  · intro h b hb
    obtain ⟨i, hi, rfl⟩ := List.mem_iff_getElem.1 hb
    exact h i (by omega) (by simpa [ByteArray.size] using hi)
  · intro h i _ hi
    exact h _ (by show s.toArray[i]'(by simpa [ByteArray.size] using hi) ∈ s; simp)
end Go.Ab.Seat
/- The reference's Name is the program's. -/
namespace Go.Ab.Seat
open Go.Proofs
set_option maxRecDepth 100000
set_option maxHeartbeats 1000000
variable {H : Handler} {N : Nat} {S : Sto}
theorem opOf_call {n : Nat} (s : List UInt8) (hn : 30 < n) : ∃ r : Int, (handler Try.prog ppol (n + 2)).call (.func 79) [.str s] S = some (.ret (.int .i64 r), S) ∧ (0 < r ↔ isNum s = true) := by
  obtain ⟨r, h1, h2⟩ := opOf_run (n := n) (N := n + 1) (S := S) s (by omega)
  exact ⟨r, by rw [call_func (by rfl), h1]; rfl, h2⟩
theorem index_str {s : List UInt8} {k : Nat} {b : UInt8} (h : s[k]? = some b) : indexA Try.prog 9 (.str s) (.int .i64 k) = some (.int .u8 b.toNat) := by
  simp [indexA, h]
def wAt : List UInt8 := [97, 116]
def wWord : List UInt8 := [119, 111, 114, 100]
def wByte : List UInt8 := [98, 121, 116, 101]
def wText : List UInt8 := [116, 101, 120, 116]
def refNm (s : List UInt8) : Bool := nameA s && !isNum s && decide (regOf s < 0) && !(s == wAt) && !(s == wWord) && !(s == wByte) && !(s == wText) && s.all bOk
theorem refNm_eq (s : List UInt8) : refNm s = nameOk s := by
  unfold refNm nameOk nameB
  rw [scan_str]
  have e : decide (s ∈ wordsL) = ((s == wAt) || (s == wWord) || (s == wByte) || (s == wText)) := by
    rw [Bool.eq_iff_iff]
    simp only [decide_eq_true_eq, Bool.or_eq_true, beq_iff_eq]
    show s ∈ [wAt, wWord, wByte, wText] ↔ _
    simp only [List.mem_cons, List.not_mem_nil, or_false, or_assoc]
  rw [e]
  cases nameA s <;> cases isNum s <;> cases decide (regOf s < 0) <;> cases (s == wAt) <;> cases (s == wWord) <;> cases (s == wByte) <;> cases (s == wText) <;> cases s.all bOk <;> rfl
theorem nameA_cons {s : List UInt8} {c : UInt8} (h : s[0]? = some c) : nameA s = (decide (s.length ≤ 16) && lowB c) := by
  cases s with
  | nil => cases h
  | cons d r =>
    simp only [List.getElem?_cons_zero, Option.some.injEq] at h
    subst h
    show (decide (r.length < 16) && decide (97 ≤ d.toNat) && decide (d.toNat ≤ 122)) = _
    have : decide (r.length < 16) = decide ((d :: r).length ≤ 16) := by rw [decide_eq_decide]; simp only [List.length_cons]; omega
    rw [this, Bool.and_assoc]; rfl
theorem refName_run {n : Nat} (s : List UInt8) (hs : s.length < 2 ^ 30) (hN : s.length < N) (hn : 40 < n) : runFn Try.prog (handler Try.prog ppol (n + 2)) N ppol 52 .none [.str s] S = some (.ret (.bool (refNm s)), .none, S) := by
  obtain ⟨r, cop, hr⟩ := opOf_call (n := n) (S := S) s (by omega)
  have creg := regR_call (n := n + 1) (S := S) s (by omega)
  have clet := fun b => letter_call (n := n + 1) (S := S) b
  have cdig := fun b => digit_call (n := n + 1) (S := S) b
  rw [runFn_eq Try.func52 (by rfl)]
  rcases hs0 : s[0]? with _ | c
  · have : s = [] := by
      cases s with
      | nil => rfl
      | cons a b => cases hs0
    subst this
    simp [Try.f52, refNm, nameA]
  have hi0 := index_str hs0
  rw [show ((0 : Nat) : Int) = 0 from rfl] at hi0
  have hpos : ¬ (s.length : Int) < 1 := by have := (List.getElem?_eq_some_iff.1 hs0).1; omega
  have hA := nameA_cons hs0
  unfold refNm
  rw [hA]
  by_cases h16 : 16 < s.length
  · have g16 : (16 : Int) < s.length := by omega
    have d16 : decide (s.length ≤ 16) = false := by rw [decide_eq_false_iff_not]; omega
    simp [Try.f52, hpos, g16, d16]
  have g16 : ¬ (16 : Int) < s.length := by omega
  have d16 : decide (s.length ≤ 16) = true := by rw [decide_eq_true_iff]; omega
  rw [d16, Bool.true_and]
  cases hl : lowB c
  · simp [Try.f52, hpos, g16, hi0, clet, hl]
  cases hnum : isNum s
  rotate_left
  · have hr0 : 0 < r := hr.2 hnum
    simp [Try.f52, hpos, g16, hi0, clet, hl, cop, hr0]
  have hr0 : ¬ 0 < r := fun h => by have := hr.1 h; rw [hnum] at this; cases this
  by_cases hreg : 0 ≤ regOf s
  · have dreg : decide (regOf s < 0) = false := by rw [decide_eq_false_iff_not]; omega
    simp [Try.f52, hpos, g16, hi0, clet, hl, cop, hr0, creg, hreg, dreg]
  have dreg : decide (regOf s < 0) = true := by rw [decide_eq_true_iff]; omega
  cases w1 : (s == wAt)
  rotate_left
  · have w1' : (s == [97, 116]) = true := w1
    simp [Try.f52, hpos, g16, hi0, clet, hl, cop, hr0, creg, hreg, w1', -beq_iff_eq]
  have w1' : (s == [97, 116]) = false := w1
  cases w2 : (s == wWord)
  rotate_left
  · have w2' : (s == [119, 111, 114, 100]) = true := w2
    simp [Try.f52, hpos, g16, hi0, clet, hl, cop, hr0, creg, hreg, w1', w2', -beq_iff_eq]
  have w2' : (s == [119, 111, 114, 100]) = false := w2
  cases w3 : (s == wByte)
  rotate_left
  · have w3' : (s == [98, 121, 116, 101]) = true := w3
    simp [Try.f52, hpos, g16, hi0, clet, hl, cop, hr0, creg, hreg, w1', w2', w3', -beq_iff_eq]
  have w3' : (s == [98, 121, 116, 101]) = false := w3
  cases w4 : (s == wText)
  rotate_left
  · have w4' : (s == [116, 101, 120, 116]) = true := w4
    simp [Try.f52, hpos, g16, hi0, clet, hl, cop, hr0, creg, hreg, w1', w2', w3', w4', -beq_iff_eq]
  have w4' : (s == [116, 101, 120, 116]) = false := w4
  rw [dreg]
  simp [Try.f52, hpos, g16, hi0, clet, hl, cop, hr0, creg, hreg, w1', w2', w3', w4', -beq_iff_eq, -beq_eq_false_iff_ne]
  rcases first_or_all (fun k => ∃ b, s[k]? = some b ∧ bOk b = false) s.length with ⟨m, h1, ⟨b, h2, h4⟩, h3⟩ | h
  · have hall : s.all bOk = false := by
      rw [List.all_eq_false]
      exact ⟨b, List.mem_of_getElem? h2, by simp [h4]⟩
    rw [loop_go (fun k => { env := envOf 62 [(0, .str s), (3, .int .i64 k)], defs := [], par := .none, S := S }) m (by omega)]
    · have hi := index_str h2
      unfold bOk at h4
      simp only [Bool.or_eq_false_iff] at h4
      simp [h1, hi, clet, cdig, h4.1, h4.2, hall]
    · simp
    · intro k hk
      obtain ⟨b', hb'⟩ : ∃ b', s[k]? = some b' := ⟨_, List.getElem?_eq_getElem (by omega)⟩
      have hkl : k < s.length := by omega
      have hok : bOk b' = true := by
        cases hb : bOk b' with
        | true => rfl
        | false => exact absurd ⟨b', hb', hb⟩ (h3 k hk)
      have hi := index_str hb'
      have w : IntKind.i64.wrap ((k : Int) + 1) = (k : Int) + 1 := wrap_succ hkl (by omega)
      unfold bOk at hok
      cases l1 : lowB b' <;> rw [l1] at hok
      · simp only [Bool.false_or] at hok
        simp [hkl, hi, clet, cdig, l1, hok, w]
      · simp [hkl, hi, clet, l1, w]
  · have hall : s.all bOk = true := by
      rw [List.all_eq_true]
      intro b hb
      obtain ⟨i, hi⟩ := List.mem_iff_getElem?.1 hb
      cases hbb : bOk b with
      | true => rfl
      | false => exact absurd ⟨b, hi, hbb⟩ (h i (List.getElem?_eq_some_iff.1 hi).1)
    rw [loop_go (fun k => { env := envOf 62 [(0, .str s), (3, .int .i64 k)], defs := [], par := .none, S := S }) s.length hN]
    · simp [hall]
    · simp
    · intro k hkl
      obtain ⟨b', hb'⟩ : ∃ b', s[k]? = some b' := ⟨_, List.getElem?_eq_getElem (by omega)⟩
      have hok : bOk b' = true := by
        cases hb : bOk b' with
        | true => rfl
        | false => exact absurd ⟨b', hb', hb⟩ (h k hkl)
      have hi := index_str hb'
      have w : IntKind.i64.wrap ((k : Int) + 1) = (k : Int) + 1 := wrap_succ hkl (by omega)
      unfold bOk at hok
      cases l1 : lowB b' <;> rw [l1] at hok
      · simp only [Bool.false_or] at hok
        simp [hkl, hi, clet, cdig, l1, hok, w]
      · simp [hkl, hi, clet, l1, w]
theorem refName_call {n : Nat} (s : List UInt8) (hs : s.length < 2 ^ 30) (hN : s.length < n + 2) (hn : 40 < n) : (handler Try.prog ppol (n + 3)).call (.func 52) [.str s] S = some (.ret (.bool (nameOk s)), S) := by
  rw [call_func (by rfl), refName_run s hs hN hn, refNm_eq]; rfl
end Go.Ab.Seat
/- The reference's Check is the program's. -/
namespace Go.Ab.Seat
open Go.Proofs
set_option maxRecDepth 100000
set_option maxHeartbeats 1000000
variable {H : Handler} {N : Nat} {S : Sto}
theorem refEnd_call {n : Nat} (a : Int) (o : Option (List UInt8)) (own : Bool) : (handler Try.prog ppol (n + 1)).call (.func 17) [.agg [.int .i64 a, sv own 1 byteRow o]] S = some (.ret (.int .i64 (IntKind.i64.wrap (a + (ol o).length))), S) := by
  rw [call_func (by rfl), runFn_eq Try.func17 (by rfl)]
  simp [Try.f17]
def chk (f : FileV) : Int := if rightOk f then 0 else 310
structure CkI (o : Option (List PartV)) where
  k : Nat
  x : Int
  hk : k ≤ (ol o).length
  hx : pBad 0 (ol o) = pBad x ((ol o).drop k)
def CkE (S : Sto) (f : FileV) (i : CkI f.parts) : St := { env := envOf 100 [(1, .box (fileC f)), (3, .int .i64 i.x), (4, .int .i64 i.k), (6, .undef)], defs := [], par := .none, S := S }
def CkT (S : Sto) (f : FileV) (r : AExit × St) : Prop :=
  r.2.defs = [] ∧ r.2.par = .none ∧ r.2.S = S ∧ ((r.1 = .exit 0 ∧ (∃ d : Int, r.2.env = envOf 100 [(18, .int .i64 (ol f.parts).length), (20, sv false 2 partRow f.parts), (21, .int .i64 (ol f.parts).length), (22, .bool false), (1, .box (fileC f)), (3, .int .i64 d), (4, .int .i64 (ol f.parts).length), (6, .undef)]) ∧ pBad 0 (ol f.parts) = false) ∨ (r.1 = .ret ∧ getT r.2.env 2 = .int .i64 310 ∧ pBad 0 (ol f.parts) = true))
structure CnI (l : List SymV) where
  k : Nat
  hk : k ≤ l.length
  hb : ∀ j, j < k → nmAt l j = true
def CnE (S : Sto) (f : FileV) (d : AV) (i : CnI (ol f.names)) : St := { env := envOf 100 [(1, .box (fileC f)), (3, d), (4, .int .i64 (ol f.parts).length), (6, .int .i64 i.k)], defs := [], par := .none, S := S }
def CnT (S : Sto) (l : List SymV) (r : AExit × St) : Prop :=
  r.2.defs = [] ∧ r.2.par = .none ∧ r.2.S = S ∧ ((r.1 = .exit 2 ∧ r.2.env.length = 100 ∧ namesOk l = true) ∨ (r.1 = .ret ∧ getT r.2.env 2 = .int .i64 310 ∧ namesOk l = false))
theorem refCheck_run {n : Nat} (f : FileV) (h : Small f n) (hN : 6400 < N) :
    runFn Try.prog (handler Try.prog ppol (n + 4)) N ppol 18 .none [.agg (fileC f)] S = some (.ret (.int .i64 (chk f)), .none, S) := by
  obtain ⟨h1, h2, h3, h4⟩ := h
  rw [runFn_eq Try.func18 (by rfl)]
  unfold chk rightOk sizesOk
  by_cases c1 : 64 < (ol f.parts).length
  · have g1 : (64 : Int) < (ol f.parts).length := by omega
    have d1 : decide ((ol f.parts).length ≤ 64) = false := by rw [decide_eq_false_iff_not]; omega
    simp [Try.f18, g1, d1]
  have g1 : ¬ (64 : Int) < (ol f.parts).length := by omega
  have d1 : decide ((ol f.parts).length ≤ 64) = true := by rw [decide_eq_true_iff]; omega
  by_cases c2 : 64 < (ol f.names).length
  · have g2 : (64 : Int) < (ol f.names).length := by omega
    have d2 : decide ((ol f.names).length ≤ 64) = false := by rw [decide_eq_false_iff_not]; omega
    simp [Try.f18, g1, d1, g2, d2]
  have g2 : ¬ (64 : Int) < (ol f.names).length := by omega
  have d2 : decide ((ol f.names).length ≤ 64) = true := by rw [decide_eq_true_iff]; omega
  rw [d1, d2]
  simp [Try.f18, g1, g2]
  generalize hL : loopN _ _ _ _ = L
  obtain ⟨x, st', rfl, hT⟩ := loop_fam' hL (CkE S f) (fun _ => CkT S f) (fun i => (ol f.parts).length - i.k) ⟨0, 0, by omega, by simp⟩ (by show _ - 0 < N; omega) (by simp [CkE]) (fun i => by
    obtain ⟨k, x, hk, hx⟩ := i
    clear hL
    by_cases hkl : k < (ol f.parts).length
    · obtain ⟨p, hp⟩ : ∃ p, (ol f.parts)[k]? = some p := ⟨_, List.getElem?_eq_getElem hkl⟩
      have hdr : (ol f.parts).drop k = p :: (ol f.parts).drop (k + 1) := by
        rw [List.drop_eq_getElem_cons hkl, (List.getElem?_eq_some_iff.1 hp).2]
      rw [hdr] at hx
      have hend : IntKind.i64.wrap (p.at' + (ol p.bytes).length) = endI p := rfl
      have w : IntKind.i64.wrap ((k : Int) + 1) = (k : Int) + 1 := wrap_succ hkl (by omega)
      have hbd : badP x p = (decide ((ol p.bytes).length = 0) || decide (2048 < (ol p.bytes).length) || decide (p.at' < x) || decide (2048 ≤ p.at') || decide (2048 < endI p)) := rfl
      have cend := fun own => refEnd_call (n := n + 3) (S := S) p.at' p.bytes own
      rw [hend] at cend
      have bad : badP x p = true → pBad 0 (ol f.parts) = true := fun hb => by rw [hx]; simp [pBad, hb]
      by_cases q1 : (ol p.bytes).length = 0
      · have e1 : ((ol p.bytes).length : Int) < 1 := by omega
        have hb := bad (by rw [hbd, q1]; rfl)
        simp [CkE, hkl, index_sv Try.underlying22 tycells45 _ hp, writeCells, e1, CkT, hb]
      have e1 : ¬ ((ol p.bytes).length : Int) < 1 := by omega
      by_cases q2 : 2048 < (ol p.bytes).length
      · have e2 : (2048 : Int) < (ol p.bytes).length := by omega
        have hb := bad (by rw [hbd]; simp [q2])
        simp [CkE, hkl, index_sv Try.underlying22 tycells45 _ hp, writeCells, e1, e2, CkT, hb]
      have e2 : ¬ (2048 : Int) < (ol p.bytes).length := by omega
      by_cases q3 : p.at' < x
      · have hb := bad (by rw [hbd]; simp [q3])
        simp [CkE, hkl, index_sv Try.underlying22 tycells45 _ hp, writeCells, e1, e2, q3, CkT, hb]
      by_cases q4 : 2048 ≤ p.at'
      · have e4 : (2047 : Int) < p.at' := by omega
        have hb := bad (by rw [hbd]; simp [q4])
        simp [CkE, hkl, index_sv Try.underlying22 tycells45 _ hp, writeCells, e1, e2, q3, e4, CkT, hb]
      have e4 : ¬ (2047 : Int) < p.at' := by omega
      by_cases q5 : 2048 < endI p
      · have hb := bad (by rw [hbd]; simp [q5])
        simp [CkE, hkl, index_sv Try.underlying22 tycells45 _ hp, writeCells, e1, e2, q3, e4, partRow, cend, q5, CkT, hb]
      · have hok : badP x p = false := by rw [hbd]; simp [q1, q2, q3, q4, q5]
        simp [CkE, hkl, index_sv Try.underlying22 tycells45 _ hp, writeCells, e1, e2, q3, e4, partRow, cend, q5, w]
        refine ⟨⟨k + 1, endI p, hkl, ?_⟩, ?_, ⟨rfl, rfl⟩⟩
        · rw [hx]; simp [pBad, hok]
        · show _ - (k + 1) < _ - k; omega
    · have hkn : k = (ol f.parts).length := by omega
      subst hkn
      have hb : pBad 0 (ol f.parts) = false := by rw [hx, List.drop_length]; rfl
      simp [CkE, CkT, hb])
  clear hL
  obtain ⟨env', defs', par', S'⟩ := st'
  obtain ⟨t1, t2, t3, ⟨rfl, ⟨d, t4⟩, t5⟩ | ⟨rfl, t4, t5⟩⟩ := hT
  rotate_left
  · simp only at t1 t2 t3 t4
    subst t1 t2 t3
    simp [t4, t5]
  simp only at t1 t2 t3 t4
  subst t1 t2 t3 t4
  rw [t5]
  simp
  generalize hL : loopN _ _ _ _ = L
  obtain ⟨x, st', rfl, hT⟩ := loop_fam' hL (CnE S' f (.int .i64 d)) (fun _ => CnT S' (ol f.names)) (fun i => (ol f.names).length - i.k) ⟨0, by omega, fun j hj => by omega⟩ (by show _ - 0 < N; omega) (by simp [CnE]) (fun i => by
    obtain ⟨k, hk, hb⟩ := i
    clear hL
    by_cases hkl : k < (ol f.names).length
    · obtain ⟨s, hks⟩ : ∃ s, (ol f.names)[k]? = some s := ⟨_, List.getElem?_eq_getElem hkl⟩
      have hc := refName_call (n := n + 1) (S := S') s.name (by have := h3 s (List.mem_of_getElem? hks); omega) (by have := h3 s (List.mem_of_getElem? hks); omega) (by omega)
      have g7 : IntKind.i64.wrap ((k : Int) + 1) = (k : Int) + 1 := wrap_succ hkl (by omega)
      have hnm : nmAt (ol f.names) k = (nameOk s.name && decide (0 ≤ s.at') && decide (s.at' ≤ 2048) && (decide (k = 0) || match (ol f.names)[k - 1]? with | some q => Op.bytesLess q.name s.name | none => true)) := by
        unfold nmAt; rw [hks]; rfl
      cases hok : nameOk s.name
      · have hfl := nm_not hkl (by rw [hnm, hok]; rfl)
        rw [hok] at hc
        simp [CnE, hkl, index_sv Try.underlying23 tycells64 _ hks, writeCells]
        rw [evDraw_go]
        · simp [hc, CnT, hfl]
        · kernel_rfl
      · rw [hok] at hc hnm
        by_cases c1 : s.at' < 0
        · have d1 : decide (0 ≤ s.at') = false := by rw [decide_eq_false_iff_not]; omega
          have hfl := nm_not hkl (by rw [hnm, d1]; rfl)
          simp [CnE, hkl, index_sv Try.underlying23 tycells64 _ hks, writeCells]
          rw [evDraw_go]
          · simp [hc, CnT, hfl, c1]
          · kernel_rfl
        · have d1 : decide (0 ≤ s.at') = true := by rw [decide_eq_true_iff]; omega
          by_cases c2 : 2048 < s.at'
          · have d2 : decide (s.at' ≤ 2048) = false := by rw [decide_eq_false_iff_not]; omega
            have hfl := nm_not hkl (by rw [hnm, d1, d2]; rfl)
            simp [CnE, hkl, index_sv Try.underlying23 tycells64 _ hks, writeCells]
            rw [evDraw_go]
            · simp [hc, CnT, hfl, c1, c2]
            · kernel_rfl
          · have d2 : decide (s.at' ≤ 2048) = true := by rw [decide_eq_true_iff]; omega
            rw [d1, d2] at hnm
            by_cases c3 : k = 0
            · subst c3
              have hi0 := index_sv (own := false) (g := symRow) Try.underlying23 tycells64 .i64 hks
              rw [show ((0 : Nat) : Int) = 0 from rfl] at hi0 g7
              simp [CnE, hkl, hi0, writeCells]
              rw [evDraw_go]
              · simp [hc, c1, c2]
                refine ⟨⟨1, hkl, fun j hj => ?_⟩, ?_, ?_⟩
                · have : j = 0 := by omega
                  rw [this, hnm]; rfl
                · show _ - 1 < _ - 0; omega
                · simp [CnE]; exact Go.IntWalk.i64_in _ (by omega)
              · kernel_rfl
            · have c3' : 0 < k := by omega
              obtain ⟨q, hkq⟩ : ∃ q, (ol f.names)[k - 1]? = some q := ⟨_, List.getElem?_eq_getElem (by omega)⟩
              have g8 : IntKind.i64.wrap ((k : Int) - 1) = ((k - 1 : Nat) : Int) := by
                rw [show (k : Int) - 1 = ((k - 1 : Nat) : Int) by omega]; exact Go.IntWalk.i64_in _ (by omega)
              rw [hkq] at hnm
              cases hless : Op.bytesLess q.name s.name
              · have hfl := nm_not hkl (by rw [hnm]; simp [c3, hless])
                simp [CnE, hkl, index_sv Try.underlying23 tycells64 _ hks, writeCells]
                rw [evDraw_go]
                · simp [hc, c1, c2, c3', g8, index_sv Try.underlying23 tycells64 _ hkq, hless, CnT, hfl]
                · kernel_rfl
              · simp [CnE, hkl, index_sv Try.underlying23 tycells64 _ hks, writeCells]
                rw [evDraw_go]
                · simp [hc, c1, c2, c3', g8, index_sv Try.underlying23 tycells64 _ hkq, hless]
                  refine ⟨⟨k + 1, hkl, fun j hj => ?_⟩, ?_, ?_⟩
                  · by_cases e : j = k
                    · rw [e, hnm]; simp [hless]
                    · exact hb j (by omega)
                  · show _ - (k + 1) < _ - k; omega
                  · simp [CnE, g7]
                · kernel_rfl
    · have hkn : k = (ol f.names).length := by omega
      have hall := nm_all (l := ol f.names) (fun j hj => hb j (by omega))
      simp [CnE, hkl, CnT, hall])
  clear hL
  obtain ⟨env', defs', par', S''⟩ := st'
  obtain ⟨t1, t2, t3, ⟨rfl, t4, t6⟩ | ⟨rfl, t4, t6⟩⟩ := hT
  · simp only at t1 t2 t3 t4
    subst t1 t2 t3
    simp [t6, getT_setT_self, t4]
  · simp only at t1 t2 t3 t4
    subst t1 t2 t3
    simp [t4, t6]
theorem refCheck_callN (f : FileV) (h : Small f 6500) (hN : 6600 < N) : (handler Try.prog ppol N).call (.func 18) [.agg (fileC f)] S = some (.ret (.int .i64 (chk f)), S) := by
  obtain ⟨n, rfl⟩ : ∃ n, N = n + 5 := ⟨N - 5, by omega⟩
  rw [call_func (by rfl), refCheck_run (n := n) (N := n + 4) (S := S) f (h.up (by omega)) (by omega)]; rfl
end Go.Ab.Seat
/- The law ImageParts. -/
namespace Go.Ab
variable {P : Program} {H : Handler} {pol : Pol} {f : FuncId} {N : Nat}
theorem fold_max (k : IntKind) (a b : Int) : foldA max2 [.int k a, .int k b] = some (.int k (max a b)) := by
  by_cases h : a ≤ b
  · by_cases h' : b ≤ a
    · have : a = b := by omega
      subst this
      simp [foldA, foldB, max2]
    · have e : max a b = b := by omega
      simp [foldA, foldB, max2, h', e]; try omega
  · have h' : b ≤ a := by omega
    have e : max a b = a := by omega
    simp [foldA, foldB, max2, e]; try omega
theorem fold_min (k : IntKind) (a b : Int) : foldA min2 [.int k a, .int k b] = some (.int k (min a b)) := by
  by_cases h : a ≤ b
  · have e : min a b = a := by omega
    simp [foldA, foldB, min2, e]; try omega
  · have e : min a b = b := by omega
    simp [foldA, foldB, min2, h, e]; try omega
def collD (d : Nat) : ADef := ⟨.coll d, []⟩
/-- Deferred calls' places that are no other's. -/
theorem unwind_colls {res : Nat} : ∀ (ds : List Nat) (S : Sto), ds.Nodup → (∀ d ∈ ds, S.get d = some .deferred ∧ d ≠ res) → ∃ S', unwindA H (ds.map collD) .returning S = some (.returning, S') ∧ S'.get res = S.get res
  | [], S, _, _ => ⟨S, rfl, rfl⟩
  | d :: ds, S, hn, h => by
    obtain ⟨h1, h2⟩ := List.nodup_cons.1 hn
    obtain ⟨h3, h4⟩ := h d (by simp)
    obtain ⟨S', e1, e2⟩ := unwind_colls (res := res) ds (S.drop d) h2 (fun x hx => by
      have hne : x ≠ d := fun e => h1 (e ▸ hx)
      obtain ⟨h5, h6⟩ := h x (by simp [hx])
      exact ⟨by rw [get_drop_ne hne]; exact h5, h6⟩)
    refine ⟨S', ?_, by rw [e2, get_drop_ne (Ne.symm h4)]⟩
    rw [List.map_cons, collD, unwind_coll, h3, deferredK_some]
    exact e1
end Go.Ab
namespace Go.Ab.Seat
open Go.Proofs
set_option maxRecDepth 100000
set_option maxHeartbeats 1000000
variable {H : Handler} {N : Nat} {S : Sto}
theorem parts_callN (f : FileV) (h : Small f 6500) (hN : 6600 < N) (hk : SOK S) :
    ∃ v S', (handler Try.prog ppol N).call (.func 19) [.agg (fileC f)] S = some (.ret (.fn (.func 53) [] [.ptr S.next 0]), S') ∧ Grew [] S S' ∧ S'.get S.next = some (.cells [v]) ∧ S.next < S'.next ∧ SlV S' 2 partRow (S.next + 1) (okParts f) v := by
  obtain ⟨n, rfl⟩ : ∃ n, N = n + 8 := ⟨N - 8, by omega⟩
  exact parts_call f (h.up (by omega)) hk
theorem conv_sv (o : Bool) (b : Option (List UInt8)) : convA Try.prog 28 9 (sv o 1 byteRow b) = some (.str (ol b)) := by
  cases b with
  | none => simp [sv, convA, ol]
  | some l => exact conv_str o l
theorem fnNil (c : Nat) : binA Try.prog .eql 49 true (.fn (.func 53) [] [.ptr c 0]) .nilfn = some (.bool false) := by kernel_rfl
/-- How it stands ahead of a turn. -/
structure PtI (many : Int) (o : Option (List PartV)) (v : AV) (mi ri wi c lo : Nat) where
  k : Nat
  S1 : Sto
  ds : List Nat
  tid : Nat
  x8 : AV
  hk : k ≤ 2
  sok : SOK S1
  hm : S1.get mi = some (.cells [.int .i64 many])
  hr : S1.get ri = some (.cells [.bool false])
  hw : S1.get wi = some (.cells [sv false 2 partRow o])
  hc : S1.get c = some (.cells [v])
  ht : S1.get tid = some (.cells [.int .i64 k])
  hv : SlV S1 2 partRow lo o v
  nd : ds.Nodup
  hd : ∀ d ∈ ds, S1.get d = some .deferred ∧ d ≠ ri ∧ d < S1.next
  ids : mi < S1.next ∧ ri < S1.next ∧ wi < S1.next ∧ c < S1.next ∧ tid < S1.next
def PtE (many : Int) (o : Option (List PartV)) (v : AV) (mi ri wi c lo : Nat) (i : PtI many o v mi ri wi c lo) : St :=
  { env := envOf 87 [(3, .ptr mi 0), (4, .ptr ri 0), (5, .ptr wi 0), (6, .fn (.func 53) [] [.ptr c 0]), (7, .ptr i.tid 0), (8, i.x8)], defs := i.ds.map collD, par := .none, S := i.S1 }
def PtT (mi ri wi c : Nat) (r : AExit × St) : Prop := ∃ (S1 : Sto) (ds : List Nat) (tid : Nat) (x8 : AV), r = (.exit 0, { env := envOf 87 [(24, .int .i64 2), (25, .bool false), (3, .ptr mi 0), (4, .ptr ri 0), (5, .ptr wi 0), (6, .fn (.func 53) [] [.ptr c 0]), (7, .ptr tid 0), (8, x8)], defs := ds.map collD, par := .none, S := S1 }) ∧
  S1.get ri = some (.cells [.bool false]) ∧ ds.Nodup ∧ ∀ d ∈ ds, S1.get d = some .deferred ∧ d ≠ ri
/-- Where the parts are gone over: so many are seen. -/
structure PgInv (many : Int) (len k : Nat) (Sy : Sto) (n8 y : Nat) (r : ALoop) (j : Nat) (S' : Sto) : Prop where
  g : Grew [n8, y] Sy S'
  n : S'.get n8 = some (.cells [.int .i64 j])
  y : S'.get y = some (.loop r)
  go : k = 0 → j = 0 ∨ (j : Int) < many
structure PgStop (many : Int) (len k : Nat) (Sy : Sto) (n8 y : Nat) (r : ALoop) (S' : Sto) : Prop where
  g : Grew [n8, y] Sy S'
  n : ∃ j : Nat, S'.get n8 = some (.cells [.int .i64 j]) ∧ j ≤ len ∧ (j : Int) = max 1 many
  y : S'.get y = some (.loop { r with state := .done, pending := some (.exit 2) })
  k0 : k = 0
theorem partsLaw_run (f : FileV) (many : Int) (hm : 2 ^ 20 + 200 < N) (hk : SOK S) :
    ∃ S', runFn Try.prog (handler Try.prog ppol N) N ppol 5 .none [.agg (fileC f), .int .i64 many] S = some (.ret (.bool true), .none, S') := by
  have cw := fun S => works_call (N := N) (S := S) (by omega)
  rw [runFn_eq Try.func5 (by rfl)]
  cases hfew : fewOf f
  · have cf := few_call (N := N) (S := (S.new (.cells [.int .i64 many])).new (.cells [.bool false])) f (by omega)
    rw [hfew] at cf
    simp [Try.f5, cf, cw, writeCells, takeCells_eq, isAggV]
  have hsm := few_small (n := 6500) hfew (by omega)
  have cf := few_call (N := N) (S := (S.new (.cells [.int .i64 many])).new (.cells [.bool false])) f (by omega)
  rw [hfew] at cf
  obtain ⟨S3, hS3⟩ : ∃ S3, ((S.new (.cells [.int .i64 many])).new (.cells [.bool false])).new (.cells [.nilsl]) = S3 := ⟨_, rfl⟩
  have hg3 : Grew [] S S3 := by rw [← hS3]; exact ((Grew.new _ _ _ (by simp)).trans (Grew.new _ _ _ (by simp))).trans (Grew.new _ _ _ (by simp))
  have ccr := refCheck_callN (N := N) (S := S3) f hsm (by omega)
  obtain ⟨S4, hS4⟩ : ∃ S4, ((S.new (.cells [.int .i64 many])).new (.cells [.bool false])).new (.cells [sv false 2 partRow (okParts f)]) = S4 := ⟨_, rfl⟩
  have hg4 : Grew [] S S4 := by rw [← hS4]; exact ((Grew.new _ _ _ (by simp)).trans (Grew.new _ _ _ (by simp))).trans (Grew.new _ _ _ (by simp [same_sv false 2 goodPart]))
  have hn4 : S4.next = S.next + 3 := by rw [← hS4]; rfl
  have m4 : S4.get S.next = some (.cells [.int .i64 many]) := by
    rw [← hS4, get_new_ne (by simp only [next_new]; omega), get_new_ne (by simp only [next_new]; omega)]; exact get_new_self _ _
  have r4 : S4.get (S.next + 1) = some (.cells [.bool false]) := by
    rw [← hS4, get_new_ne (by simp only [next_new]; omega)]; exact get_new_self _ _
  have w4 : S4.get (S.next + 1 + 1) = some (.cells [sv false 2 partRow (okParts f)]) := by rw [← hS4]; exact get_new_self _ _
  have w3 : S3.get (S.next + 1 + 1) = some (.cells [.nilsl]) := by rw [← hS3]; exact get_new_self _ _
  obtain ⟨v, S5, cp, hg5, hc5, hlt5, hv5⟩ := parts_callN (N := N) (S := S4) f hsm (by omega) (hg4.sok hk)
  rw [hn4] at cp hc5 hlt5 hv5
  have hwant : (chk f = 0 ∧ okParts f = f.parts) ∨ (chk f = 310 ∧ okParts f = none) := by
    unfold chk okParts
    cases rightOk f
    · exact .inr ⟨rfl, rfl⟩
    · exact .inl ⟨rfl, rfl⟩
  have e3 : S3.put (S.next + 1 + 1) (.cells [sv false 2 partRow (okParts f)]) = S4 := by rw [← hS3, ← hS4]; exact put_new_eq rfl
  have hk5 : SOK S5 := hg5.sok (hg4.sok hk)
  have m5 := (hg5.get S.next (by omega) (by simp)).trans m4
  have r5 := (hg5.get (S.next + 1) (by omega) (by simp)).trans r4
  have w5 := (hg5.get (S.next + 1 + 1) (by omega) (by simp)).trans w4
  generalize ho : okParts f = o at *
  have hlo : (ol o).length ≤ 6000 := by
    rcases hwant with ⟨-, h⟩ | ⟨-, h⟩
    · rw [h]; exact hsm.parts
    · rw [h]; simp [ol]
  have hob : ∀ p ∈ ol o, (ol p.bytes).length < 2 ^ 40 := by
    intro p hp
    rw [← ho] at hp
    unfold okParts at hp
    cases hok : rightOk f <;> rw [hok] at hp
    · simp [ol] at hp
    · have := pBad_each (rightOk_parts hok) p hp; omega
  rcases hwant with ⟨hw1, hw2⟩ | ⟨hw1, hw2⟩
  rw [hw1] at ccr
  rw [hw2] at e3
  simp [Try.f5, cf, hS3, ccr, w3, e3, writeCells, cp, fnNil]
  rotate_left
  rw [hw1] at ccr
  have e4 : S3 = S4 := by rw [← hS3, ← hS4, hw2]; rfl
  rw [e4] at hS3 ccr
  simp [Try.f5, cf, hS3, ccr, cp, writeCells, fnNil]
  all_goals
    clear hw1 hw2 ccr e3 hS3 cf cp ho
    generalize hL : loopN _ _ _ _ = L
    have hkn : SOK (S5.new (.cells [.int .i64 0])) := hk5.new (by simp)
    obtain ⟨x, st', rfl, hT⟩ := loop_fam' hL (PtE many o v S.next (S.next + 1) (S.next + 1 + 1) (S.next + 3) (S.next + 3 + 1)) (fun _ => PtT S.next (S.next + 1) (S.next + 1 + 1) (S.next + 3)) (fun i => 2 - i.k)
      ⟨0, S5.new (.cells [.int .i64 0]), [], S5.next, .undef, by omega, hkn, by rw [get_new_ne (by omega)]; exact m5, by rw [get_new_ne (by omega)]; exact r5, by rw [get_new_ne (by omega)]; exact w5, by rw [get_new_ne (by omega)]; exact hc5, get_new_self _ _, hv5.mono (Grew.new [] _ _ (by simp)) (by simp), List.nodup_nil, by simp, by simp only [next_new]; omega⟩
      (by show 2 - 0 < N; omega) (by simp [PtE]) (fun i => by
      obtain ⟨k, S1, ds, tid, x8, hk, sok, hm', hr', hw', hc', ht', hv', nd, hd, ids⟩ := i
      clear hL
      obtain ⟨i1, i2, i3, i4, i5⟩ := ids
      by_cases hk2 : k < 2
      · have g2 : (k : Int) < 2 := by omega
        simp [PtE, ht', g2, writeCells]
        generalize hrr : loopOf _ _ _ _ _ _ _ = r
        have hra := congrArg ALoop.assign hrr
        have hrb := congrArg ALoop.body hrr
        have hre := congrArg ALoop.env hrr
        have hrf := congrArg ALoop.fn hrr
        have hrp := congrArg ALoop.params hrr
        have hrs := congrArg ALoop.state hrr
        have hrn := congrArg ALoop.pending hrr
        simp [loopOf] at hra hrb hre hrf hrp hrs hrn
        clear hrr
        obtain ⟨n8, hn8⟩ : ∃ n8, S1.next = n8 := ⟨_, rfl⟩
        obtain ⟨y, hyid⟩ : ∃ y, n8 + 1 + 1 = y := ⟨_, rfl⟩
        rw [hn8] at hre i1 i2 i3 i4 i5
        obtain ⟨Sy, hSy⟩ : ∃ Sy, ((S1.new (.cells [.int .i64 0])).new .deferred).new (.loop r) = Sy := ⟨_, rfl⟩
        have gy : Grew [] S1 Sy := by rw [← hSy]; exact ((Grew.new _ _ _ (by simp)).trans (Grew.new _ _ _ rfl)).trans (Grew.new _ _ _ rfl)
        have ny : Sy.next = n8 + 3 := by rw [← hSy, ← hn8]; rfl
        have yn8 : Sy.get n8 = some (.cells [.int .i64 0]) := by
          rw [← hSy, ← hn8, get_new_ne (by simp only [next_new]; omega), get_new_ne (by simp only [next_new]; omega)]; exact get_new_self _ _
        have yd : Sy.get (n8 + 1) = some .deferred := by
          rw [← hSy, ← hn8, get_new_ne (by simp only [next_new]; omega)]; exact get_new_self _ _
        have yy : Sy.get y = some (.loop r) := by rw [← hSy, ← hyid, ← hn8]; exact get_new_self _ _
        have ym := (gy.get S.next (by omega) (by simp)).trans hm'
        have yr := (gy.get (S.next + 1) (by omega) (by simp)).trans hr'
        have yw := (gy.get (S.next + 1 + 1) (by omega) (by simp)).trans hw'
        have yc := (gy.get (S.next + 3) (by omega) (by simp)).trans hc'
        have yt := (gy.get tid (by omega) (by simp)).trans ht'
        have ysok := gy.sok sok
        have hrr2 : ({ state := .ready, pending := none, fn := r.fn, env := r.env, params := r.params, assign := r.assign, body := r.body, defers := r.defers } : ALoop) = r := by
          obtain ⟨x1, x2, x3, x4, x5, x6, x7, x8⟩ := r
          simp only at hrs hrn
          subst hrs hrn
          rfl
        obtain ⟨M, hM⟩ : ∃ M, N = M + 1 + 1 := ⟨N - 2, by omega⟩
        obtain ⟨S7, e7, hI7⟩ := partsGo_run (n := M) (N := M + 1) (S := Sy) (y := y) (lo := S.next + 3 + 1) (PgInv many (ol o).length k Sy n8 y r) (PgStop many (ol o).length k Sy n8 y r) yc (by omega) (by omega) hob
          ⟨Grew.refl _ _, yn8, yy, fun _ => .inl rfl⟩
          (fun j S' hI => ⟨hI.g.sok ysok, hv'.mono ((gy.mono' (by simp)).trans hI.g) (fun b hb => by simp only [List.mem_cons, List.not_mem_nil, or_false] at hb; omega)⟩)
          (fun j p S' hI hp => by
            have hjl := (List.getElem?_eq_some_iff.1 hp).1
            obtain ⟨Sb, hSb⟩ : ∃ Sb, S'.put y (.loop { r with state := .busy }) = Sb := ⟨_, rfl⟩
            have old : ∀ id, id < n8 → Sb.get id = Sy.get id := fun id hid => by
              rw [← hSb, get_put_ne (by omega), hI.g.get id (by omega) (by simp; omega)]
            have bn : Sb.get n8 = some (.cells [.int .i64 j]) := by rw [← hSb, get_put_ne (by omega)]; exact hI.n
            have by' : Sb.get y = some (.loop { r with state := .busy }) := by rw [← hSb]; exact get_put_self hI.y
            have bm := (old S.next (by omega)).trans ym
            have br := (old (S.next + 1) (by omega)).trans yr
            have bw := (old (S.next + 1 + 1) (by omega)).trans yw
            have bt := (old tid (by omega)).trans yt
            have hix := index_sv (own := false) (g := partRow) Try.underlying22 tycells45 .i64 hp
            have w1 : IntKind.i64.wrap ((j : Int) + 1) = (j : Int) + 1 := wrap_succ hjl (by omega)
            have gj : ¬ ((ol o).length : Int) ≤ j := by omega
            have gd1 : Grew [n8, y] S' Sb := by rw [← hSb]; exact Grew.put _ _ (.inl (by simp)) rfl
            have gd2 : Grew [n8, y] Sb (Sb.put n8 (.cells [.int .i64 ((j : Int) + 1)])) := Grew.put _ _ (.inl (by simp)) (by simp)
            have bn2 : (Sb.put n8 (.cells [.int .i64 ((j : Int) + 1)])).get n8 = some (.cells [.int .i64 ((j : Int) + 1)]) := get_put_self bn
            have by2 : (Sb.put n8 (.cells [.int .i64 ((j : Int) + 1)])).get y = some (.loop { r with state := .busy }) := by rw [get_put_ne (by omega)]; exact by'
            have bm2 : (Sb.put n8 (.cells [.int .i64 ((j : Int) + 1)])).get S.next = some (.cells [.int .i64 many]) := by rw [get_put_ne (by omega)]; exact bm
            have bt2 : (Sb.put n8 (.cells [.int .i64 ((j : Int) + 1)])).get tid = some (.cells [.int .i64 k]) := by rw [get_put_ne (by omega)]; exact bt
            by_cases hstop : k = 0 ∧ many ≤ (j : Int) + 1
            · obtain ⟨k0, hst⟩ := hstop
              have ek : ((k : Int) == 0) = true := by rw [beq_iff_eq]; omega
              obtain ⟨rd, hrd⟩ : ∃ rd : ALoop, { r with state := .done, pending := some (.exit 2) } = rd := ⟨_, rfl⟩
              refine ⟨false, (Sb.put n8 (.cells [.int .i64 ((j : Int) + 1)])).put y (.loop rd), ?_, (fun h => by cases h), fun _ => ?_⟩
              · rw [call_yield, yield_eq hI.y (by rw [← hrp]; rfl) (by rw [← hrf]; rfl)]
                rw [← hra, ← hre, ← hrf, ← hrp]
                simp
                rw [yBody_normal hI.y hrs.symm, hSb, ← hrb, ← hrf]
                simp
                rw [evDraw_go]
                · simp [bn, bw, gj, hix, conv_sv, writeCells, w1, bn2, bm2, bt2, ek, hst]
                  rw [yFin_exit (r := { r with state := .busy }) by2]
                  rw [← hrd]
                · kernel_rfl
              · refine ⟨((hI.g.trans gd1).trans gd2).trans (Grew.put _ _ (.inl (by simp)) rfl), ⟨j + 1, ?_, hjl, ?_⟩, by rw [hrd]; exact get_put_self by2, k0⟩
                · rw [get_put_ne (by omega)]; exact bn2
                · have := hI.go k0
                  omega
            · refine ⟨true, (Sb.put n8 (.cells [.int .i64 ((j : Int) + 1)])).put y (.loop r), ?_, fun _ => ?_, (fun h => by cases h)⟩
              · rw [call_yield, yield_eq hI.y (by rw [← hrp]; rfl) (by rw [← hrf]; rfl)]
                rw [← hra, ← hre, ← hrf, ← hrp]
                simp
                rw [yBody_normal hI.y hrs.symm, hSb, ← hrb, ← hrf]
                simp
                rw [evDraw_go]
                · by_cases k0 : k = 0
                  · have ek : ((k : Int) == 0) = true := by rw [beq_iff_eq]; omega
                    have hst : ¬ many ≤ (j : Int) + 1 := fun h => hstop ⟨k0, h⟩
                    simp [bn, bw, gj, hix, conv_sv, writeCells, w1, bn2, bm2, bt2, ek, hst]
                    rw [yFin_normal (r := { r with state := .busy }) by2]
                    simp [hrr2]
                  · have ek : ((k : Int) == 0) = false := by rw [beq_eq_false_iff_ne]; omega
                    simp [bn, bw, gj, hix, conv_sv, writeCells, w1, bt2, ek]
                    rw [yFin_normal (r := { r with state := .busy }) by2]
                    simp [hrr2]
                · kernel_rfl
              · refine ⟨((hI.g.trans gd1).trans gd2).trans (Grew.put _ _ (.inl (by simp)) rfl), ?_, get_put_self by2, fun k0 => .inr ?_⟩
                · rw [get_put_ne (by omega)]; exact bn2
                · have : ¬ many ≤ (j : Int) + 1 := fun h => hstop ⟨k0, h⟩
                  omega)
        have hcall : (handler Try.prog ppol N).call (.func 53) [.yld y, .ptr (S.next + 3) 0] Sy = some (.ret .undef, S7) := by
          rw [hM, call_func (by rfl), e7]; rfl
        have hfin : ∃ jn : Nat, S7.get n8 = some (.cells [.int .i64 jn]) ∧ Grew [n8, y] Sy S7 ∧ (k = 0 → (jn : Int) = min ((ol o).length : Int) (max 1 many)) ∧ (k ≠ 0 → jn = (ol o).length) ∧
            ∀ st defs, blkK 2 (rgEnd y st defs (some (.ret .undef, S7))) = some (.normal, { st with S := S7.drop y, defs := defs }) := by
          rcases hI7 with hI | hI
          · refine ⟨(ol o).length, hI.n, hI.g, fun k0 => ?_, fun _ => rfl, fun st defs => ?_⟩
            · have := hI.go k0
              omega
            · rw [rgEnd_ret hI.y hrs.symm hrn.symm]; rfl
          · obtain ⟨jn, q1, q2, q3⟩ := hI.n
            refine ⟨jn, q1, hI.g, fun _ => by omega, fun h => absurd hI.k0 h, fun st defs => ?_⟩
            rw [rgEnd_exit hI.y rfl rfl]; rfl
        obtain ⟨jn, q1, q2, q3, q4, q5⟩ := hfin
        obtain ⟨S8, hS8⟩ : ∃ S8, S7.drop y = S8 := ⟨_, rfl⟩
        have g8 : Grew [n8, y] Sy S8 := by rw [← hS8]; exact q2.trans (Grew.drop _ (.inl (by simp)))
        have n8' := g8.next
        have old8 : ∀ id, id < S1.next → S8.get id = S1.get id := fun id hid => (g8.get id (by omega) (by simp; omega)).trans (gy.get id (by omega) (by simp))
        have s8n : S8.get n8 = some (.cells [.int .i64 jn]) := by rw [← hS8, get_drop_ne (by omega)]; exact q1
        have s8d : S8.get (n8 + 1) = some .deferred := (g8.get (n8 + 1) (by omega) (by simp; omega)).trans yd
        have s8m := (old8 S.next (by omega)).trans hm'
        have s8r := (old8 (S.next + 1) (by omega)).trans hr'
        have s8w := (old8 (S.next + 1 + 1) (by omega)).trans hw'
        have s8c := (old8 (S.next + 3) (by omega)).trans hc'
        have s8t := (old8 tid (by omega)).trans ht'
        have s8k : SOK S8 := g8.sok ysok
        have s8v : SlV S8 2 partRow (S.next + 3 + 1) o v := hv'.mono ((gy.mono' (by simp)).trans g8) (fun b hb => by simp only [List.mem_cons, List.not_mem_nil, or_false] at hb; omega)
        have w1 : IntKind.i64.wrap ((k : Int) + 1) = ((k + 1 : Nat) : Int) := by
          rw [show (k : Int) + 1 = ((k + 1 : Nat) : Int) by omega]; exact Go.IntWalk.i64_in _ (by omega)
        obtain ⟨S9, hS9⟩ : ∃ S9, S8.new (.cells [.int .i64 ((k + 1 : Nat) : Int)]) = S9 := ⟨_, rfl⟩
        have g9 : Grew [] S8 S9 := by rw [← hS9]; exact Grew.new _ _ _ (by simp)
        have n9 : S9.next = S8.next + 1 := by rw [← hS9]; rfl
        have t9 : S9.get S8.next = some (.cells [.int .i64 ((k + 1 : Nat) : Int)]) := by rw [← hS9]; exact get_new_self _ _
        have old9 : ∀ id, id < S8.next → S9.get id = S8.get id := fun id hid => g9.get id hid (by simp)
        have hnext : ∃ i : PtI many o v S.next (S.next + 1) (S.next + 1 + 1) (S.next + 3) (S.next + 3 + 1), i.k = k + 1 ∧ i.S1 = S9 ∧ i.ds = (n8 + 1) :: ds ∧ i.tid = S8.next ∧ i.x8 = .ptr n8 0 := ⟨⟨k + 1, S9, (n8 + 1) :: ds, S8.next, .ptr n8 0, by omega, g9.sok s8k, (old9 _ (by omega)).trans s8m, (old9 _ (by omega)).trans s8r, (old9 _ (by omega)).trans s8w, (old9 _ (by omega)).trans s8c, t9, s8v.mono g9 (by simp),
          List.nodup_cons.2 ⟨fun hmem => by have := (hd _ hmem).2.2; omega, nd⟩, fun d hd' => by
            rcases List.mem_cons.1 hd' with rfl | hd'
            · exact ⟨(old9 _ (by omega)).trans s8d, by omega, by omega⟩
            · obtain ⟨z1, z2, z3⟩ := hd d hd'
              exact ⟨((old9 d (by omega)).trans (old8 d z3)).trans z1, z2, by omega⟩, by omega⟩, rfl, rfl, rfl, rfl, rfl⟩
        obtain ⟨i', j1, j2, j3, j4, j5⟩ := hnext
        simp [hn8, hyid, hSy, hcall, q5, hS8]
        by_cases k0 : k = 0
        · have ek : ((k : Int) == 0) = true := by rw [beq_iff_eq]; omega
          have ek1 : ((k : Int) == 1) = false := by rw [beq_eq_false_iff_ne]; omega
          have hne : ((jn : Int) != min ((ol o).length : Int) (max 1 many)) = false := by rw [bne_eq_false_iff_eq]; exact q3 k0
          simp [s8n, s8m, s8w, s8t, ek, ek1, hne, fold_max, fold_min, writeCells, w1]
          refine ⟨i', by omega, ?_⟩
          simp [PtE, j2, j3, j4, j5, ← hS9, collD]
        · have ek : ((k : Int) == 0) = false := by rw [beq_eq_false_iff_ne]; omega
          have ek1 : ((k : Int) == 1) = true := by rw [beq_iff_eq]; omega
          have hj := q4 k0
          simp [s8n, s8w, s8t, ek, ek1, hj, writeCells, w1]
          refine ⟨i', by omega, ?_⟩
          simp [PtE, j2, j3, j4, j5, ← hS9, collD]
      · have : k = 2 := by omega
        subst this
        have ht2 : S1.get tid = some (.cells [.int .i64 2]) := ht'
        simp [PtE, ht2]
        exact ⟨S1, ds, tid, x8, by simp, hr', nd, fun d hd' => ⟨(hd d hd').1, (hd d hd').2.1⟩⟩)
    clear hL
    obtain ⟨S9, ds, tid, x8, e9, r9, nd9, hd9⟩ := hT
    obtain ⟨rfl, rfl⟩ := Prod.mk.inj e9
    obtain ⟨Sz, z1, z2⟩ := unwind_colls (H := handler Try.prog ppol N) (res := S.next + 1) ds (S9.put (S.next + 1) (.cells [.bool true])) nd9 (fun d hd => ⟨by rw [get_put_ne (hd9 d hd).2]; exact (hd9 d hd).1, (hd9 d hd).2⟩)
    have z3 : Sz.get (S.next + 1) = some (.cells [.bool true]) := by rw [z2]; exact get_put_self r9
    simp [cw, r9, writeCells, z1, z3, takeCells_eq, isAggV]
end Go.Ab.Seat
/- The row of ImageParts. -/
namespace Go.Proofs.Ytooahmehpnbfgaa
open Go.Ab Go.Ab.Seat Go.ChangeShapes Go.WideShapes Go.ChangeAt Go.RowKit
set_option maxRecDepth 100000 in
theorem imageParts_lifted (os : Os) (started : os.Started) (H : Type) (enc : TypeId × Value → H) :
    ReturnsInHanded {} Try.checked os 5 .any (Rows.imagePartsSpec.pre6 enc Try.prog Try.f5 Rows.imagePartsRow.domain false) (Rows.imagePartsSpec.post enc Try.prog Try.f5 false true false false) := by
  refine lifted_of_ev (C := Try.checked) (rt := 4) started seatOwn (by kernel_rfl) Try.func5
    (ChangeSpec.witness6 (enc := enc) (C := Try.checked) false ⟨#[], #[.agg #[.slice none 0 0, .slice none 0 0], .int .i64 0], []⟩ 8 (by kernel_rfl) (by kernel_rfl) (by kernel_rfl) (by kernel_rfl))
    fine seatLaid ?_ ?_ ?_ ?_ ppol ?_
  · intro t ht
    rw [show Try.f5.params.toList = [25, 3] from rfl] at ht
    simp only [List.mem_cons, List.not_mem_nil, or_false] at ht
    rcases ht with rfl | rfl
    · exact ⟨by kernel_rfl, of_decide_eq_true (by kernel_rfl)⟩
    · exact ⟨by kernel_rfl, of_decide_eq_true (by kernel_rfl)⟩
  · rfl
  · exact Try.underlying4
  · refine ⟨rfl, fun H ds hds => ?_⟩
    match ds, hds with
    | [d1, d2], _ => exact ⟨rfl, rfl, rfl⟩
  · intro W args ds ps hval hA
    obtain ⟨base, hval⟩ := hval
    have hA : DataW.TrodAll enc Try.prog W 0 (fun _ => true) true [25, 3] args ds ps := hA
    obtain ⟨v0, vs0, d0, ds0, p0, q0, rfl, rfl, rfl, h0, r0⟩ := trodAll_cons hA
    obtain ⟨v1, vs1, d1, ds1, p1, q1, rfl, rfl, rfl, h1, r1⟩ := trodAll_cons r0
    obtain ⟨rfl, rfl, rfl⟩ := trodAll_nil r1
    obtain ⟨cs, rfl, -⟩ := okWide_struct Try.underlying25 (hval 0 25 v0 rfl rfl)
    obtain ⟨n1, rfl⟩ := okWide_int Try.underlying3 (hval 1 3 v1 rfl rfl)
    obtain ⟨f, -, k0⟩ := arg_agg reads_file h0
    have k1 : ListRel (ctx0 W) [.int .i64 n1] none 0 [.int .i64 n1] := one_rel rfl (by simp only [VRel])
    refine ⟨[.agg (fileC f), .int .i64 n1], ?_, 2 ^ 20 + 201, ?_⟩
    · exact k0.append (ListRel.any _ none 0 _ _ k1)
    · obtain ⟨S', e⟩ := partsLaw_run (N := 2 ^ 20 + 201) (S := { heap := [], next := 0 }) f n1 (by omega) (SOK.nil 0)
      exact ⟨_, S', e⟩
theorem imageParts_holds : Rows.ImagePartsSaid :=
  OpenClaim.holds_of_wide 5 Try.f5 rfl rfl rfl rfl rfl rfl rfl ⟨rfl, rfl, rfl, rfl, rfl⟩ rfl rfl rfl rfl rfl (by kernel_rfl) Try.func5 (by kernel_rfl)
    (of_decide_eq_true (by kernel_rfl)) (by unfold Func.isWrapper; first | (rw [if_pos (by decide +kernel)]; kernel_rfl) | (rw [if_neg (by decide +kernel)]; exact ⟨rfl, rfl⟩))
    (fun os started H enc _ => imageParts_lifted os started H enc)
#print axioms imageParts_holds
end Go.Proofs.Ytooahmehpnbfgaa
/- What is laid is read as it was told. -/
namespace Go.Ab.Seat
open Go.Proofs
set_option maxRecDepth 100000
set_option maxHeartbeats 1000000
theorem ofNat_toNat {k : Nat} (h : k < 256) : (UInt8.ofNat k).toNat = k := by
  rw [UInt8.toNat_ofNat', Nat.mod_eq_of_lt (by omega)]
theorem numOf_fwd {k : Nat} (hk : k ≤ 5000) (r : List UInt8) : numOf (numB k ++ r) = some (k, r) := by
  by_cases h : k < 128
  · rw [numB_small h]
    have e := ofNat_toNat (k := k) (by omega)
    unfold numOf
    simp only [List.cons_append, List.nil_append, numGo, e]
    rw [if_pos h, if_pos ⟨.inl trivial, by omega⟩]
    simp only [Option.some.injEq, Prod.mk.injEq, and_true]
    omega
  · have h2 : k / 128 < 128 := by omega
    rw [numB_big (by omega), numB_small h2]
    have e1 := ofNat_toNat (k := k % 128 + 128) (by omega)
    have e2 := ofNat_toNat (k := k / 128) (by omega)
    unfold numOf
    simp only [List.cons_append, List.nil_append, numGo, e1, e2]
    rw [if_neg (by omega), if_pos h2, if_pos ⟨.inr (by omega), by omega⟩]
    simp only [Option.some.injEq, Prod.mk.injEq, and_true]
    omega
/-- A part as it is read. -/
def normP (p : PartV) : PartV := ⟨p.at', some (ol p.bytes)⟩
def normF (f : FileV) : FileV := ⟨optL ((ol f.parts).map normP), optL (ol f.names)⟩
theorem readParts_fwd : ∀ (ps : List PartV) (x : Nat) (r : List UInt8), pBad (x : Int) ps = false → readParts ps.length x (partsB x ps ++ r) = some (ps.map normP, r)
  | [], x, r, _ => rfl
  | p :: ps, x, r, h => by
    simp only [pBad, Bool.or_eq_false_iff] at h
    obtain ⟨h1, h2⟩ := badP_no h.1
    have hrest := h.2
    rw [h2] at hrest
    have ih := readParts_fwd ps (endN p) r hrest
    have hle := h1.le
    unfold endN at hle
    have hge := h1.ge
    have e0 : partsB x (p :: ps) ++ r = numB (atN p - x) ++ (numB (plen p) ++ (ol p.bytes ++ (partsB (endN p) ps ++ r))) := by
      simp only [partsB, partB, List.append_assoc]
    rw [e0]
    simp only [List.length_cons, readParts]
    rw [numOf_fwd (by omega)]
    simp only
    rw [numOf_fwd (by omega)]
    simp only
    have hpl : (ol p.bytes).length = plen p := rfl
    have e1 : plen p ≤ (ol p.bytes ++ (partsB (endN p) ps ++ r)).length := by rw [List.length_append, hpl]; omega
    rw [if_pos e1]
    have e2 : x + (atN p - x) = atN p := by omega
    rw [e2]
    have e3 : (ol p.bytes ++ (partsB (endN p) ps ++ r)).take (plen p) = ol p.bytes := List.take_left' hpl
    have e4 : (ol p.bytes ++ (partsB (endN p) ps ++ r)).drop (plen p) = partsB (endN p) ps ++ r := List.drop_left' hpl
    rw [e3, e4]
    show (match readParts ps.length (endN p) (partsB (endN p) ps ++ r) with | none => none | some (ps', r') => _) = _
    rw [ih]
    simp only [List.map_cons, Option.some.injEq, Prod.mk.injEq, List.cons.injEq, and_true]
    unfold normP
    rw [h1.at']
theorem readNames_fwd : ∀ (ss : List SymV) (r : List UInt8), (∀ s ∈ ss, SymOk s) → readNames ss.length (ss.flatMap symB ++ r) = some (ss, r)
  | [], r, _ => rfl
  | s :: ss, r, h => by
    have hs := h s (by simp)
    have hl := nameOk_len hs.name
    have ih := readNames_fwd ss r (fun t ht => h t (by simp [ht]))
    have e0 : (s :: ss).flatMap symB ++ r = UInt8.ofNat s.name.length :: (s.name ++ (numB s.at'.toNat ++ (ss.flatMap symB ++ r))) := by
      simp only [List.flatMap_cons, symB, List.cons_append, List.append_assoc]
    rw [e0]
    have e1 := ofNat_toNat (k := s.name.length) (by omega)
    simp only [List.length_cons, readNames, e1]
    rw [if_pos (by rw [List.length_append]; omega)]
    have e3 : (s.name ++ (numB s.at'.toNat ++ (ss.flatMap symB ++ r))).take s.name.length = s.name := List.take_left' rfl
    have e4 : (s.name ++ (numB s.at'.toNat ++ (ss.flatMap symB ++ r))).drop s.name.length = numB s.at'.toNat ++ (ss.flatMap symB ++ r) := List.drop_left' rfl
    rw [e3, e4, numOf_fwd (by have := hs.le; omega)]
    simp only
    rw [ih]
    simp only [Option.some.injEq, Prod.mk.injEq, List.cons.injEq, and_true]
    have := hs.at'
    cases s with
    | mk nm a => simp only at this ⊢; rw [← this]
theorem normP_pBad : ∀ (ps : List PartV) (x : Int), pBad x (ps.map normP) = pBad x ps
  | [], _ => rfl
  | p :: ps, x => by
    have e1 : badP x (normP p) = badP x p := rfl
    have e2 : endI (normP p) = endI p := rfl
    simp only [List.map_cons, pBad, e1, e2, normP_pBad ps]
theorem norm_ok {f : FileV} (h : rightOk f = true) : rightOk (normF f) = true := by
  have e1 : ol (normF f).parts = (ol f.parts).map normP := ol_optL _
  have e2 : ol (normF f).names = ol f.names := ol_optL _
  unfold rightOk sizesOk at h ⊢
  rw [e1, e2, normP_pBad, List.length_map]
  exact h
theorem readBody_fwd {f : FileV} (h : rightOk f = true) : readBody (numB (ol f.parts).length ++ (partsB 0 (ol f.parts) ++ (numB (ol f.names).length ++ (ol f.names).flatMap symB))) = some (normF f) := by
  obtain ⟨s1, s2⟩ := rightOk_sizes h
  have hp := readParts_fwd (ol f.parts) 0 (numB (ol f.names).length ++ (ol f.names).flatMap symB) (rightOk_parts h)
  have hn := readNames_fwd (ol f.names) [] (fun s hs => by
    obtain ⟨i, hi⟩ := List.mem_iff_getElem?.1 hs
    exact namesOk_at (rightOk_names h) hi)
  rw [List.append_nil] at hn
  unfold readBody
  rw [numOf_fwd (by omega)]
  simp only
  rw [hp]
  simp only
  rw [numOf_fwd (by omega)]
  simp only
  rw [hn]
  simp only
  rw [if_pos ⟨trivial, norm_ok h⟩]
  rfl
theorem raw_read {f : FileV} (h : rightOk f = true) : readV (rawB f) = .tup [.agg (fileC (normF f)), .int .i64 0] := by
  have hB : rawB f = bodyB f ++ sumB (bodyB f) := rfl
  have hl : (rawB f).length - 4 = (bodyB f).length := by rw [hB, List.length_append]; simp [sumB]
  have e1 : (rawB f).take ((rawB f).length - 4) = bodyB f := by rw [hl, hB]; exact List.take_left' rfl
  have e2 : (rawB f).drop ((rawB f).length - 4) = sumB (bodyB f) := by rw [hl, hB]; exact List.drop_left' rfl
  have e3 : bodyB f = markB ++ (numB (ol f.parts).length ++ (partsB 0 (ol f.parts) ++ (numB (ol f.names).length ++ (ol f.names).flatMap symB))) := by
    simp only [bodyB, headB, List.append_assoc]
  have hm : markOk (rawB f) = true := by
    unfold markOk
    rw [Bool.and_eq_true, decide_eq_true_eq, beq_iff_eq]
    constructor
    · have q1 : (sumB (bodyB f)).length = 4 := rfl
      have q2 : markB.length = 4 := rfl
      rw [hB, List.length_append, q1, e3, List.length_append, q2]; omega
    · rw [hB, e3]; rfl
  have hs : sumOk (rawB f) = true := by
    unfold sumOk
    rw [e1, e2]; simp
  unfold readV
  rw [hm, hs, e1]
  have e4 : (bodyB f).drop 4 = numB (ol f.parts).length ++ (partsB 0 (ol f.parts) ++ (numB (ol f.names).length ++ (ol f.names).flatMap symB)) := by
    rw [e3]; rfl
  rw [e4, readBody_fwd h]
  rfl
end Go.Ab.Seat
/- The reference's bytes. -/
namespace Go.Ab.Seat
open Go.Proofs
set_option maxRecDepth 100000
set_option maxHeartbeats 1000000
variable {H : Handler} {N : Nat} {S : Sto}
theorem app_accB {st : St} {o : Bool} {acc : List UInt8} {b : UInt8} (h : acc.length < 2 ^ 38) : appendS Try.prog 1 28 28 (sv true 1 byteRow (optL acc)) (.sl o 1 [byteRow b]) st = some (.val (sv true 1 byteRow (optL (acc ++ [b]))) st) := by
  cases acc with
  | nil =>
    have hb := not_big 1 (by omega)
    unfold appendS
    simp [optL, sv, moreA, rowsIn, rowsOf, appInline, hb]
  | cons q acc =>
    have := app_bytes (st := st) (xt := 28) (rows := (q :: acc).map byteRow) (more := [byteRow b]) (v := .sl o 1 [byteRow b]) (.inl rfl) (by simp [rowsIn, rowsOf]) (by simp at h ⊢; omega)
    simpa [optL, sv] using this
structure RnbI where
  n : Nat
  acc : List UInt8
  hn : n < 2 ^ 30
  hb : acc.length + n < 2 ^ 36
def RnbE (S : Sto) (i : RnbI) : St := { env := envOf 20 [(0, .int .i64 i.n), (3, sv true 1 byteRow (optL i.acc))], defs := [], par := .none, S := S }
def RnbT (S : Sto) (i : RnbI) (r : AExit × St) : Prop := r = (.exit 0, { env := envOf 20 [(0, .int .i64 (leadB i.n)), (3, sv true 1 byteRow (optL (i.acc ++ hiB i.n))), (4, .int .i64 (leadB i.n)), (5, .bool false)], defs := [], par := .none, S := S })
theorem refNumber_run (n : Nat) (hn : n < 2 ^ 20) (hN : 2 ^ 20 < N) : runFn Try.prog H N ppol 56 .none [.int .i64 n] S = some (.ret (.sl true 1 ((numB n).map byteRow)), .none, S) := by
  rw [runFn_eq Try.func56 (by rfl)]
  simp [Try.f56]
  generalize hL : loopN _ _ _ _ = L
  obtain ⟨x, st', rfl, hT⟩ := loop_fam' hL (RnbE S) (RnbT S) (fun i => i.n) ⟨n, [], by omega, by simp; omega⟩ (by show n < N; omega) (by simp [RnbE, optL, sv]) (fun i => by
    obtain ⟨m, acc, hm, hc⟩ := i
    clear hL
    by_cases h : 128 ≤ m
    · have h' : (128 : Int) ≤ m := by omega
      have e1 : leadB m = leadB (m / 128) := by rw [leadB, if_pos h]
      have e2 : hiB m = UInt8.ofNat (m % 128 + 128) :: hiB (m / 128) := by rw [hiB, if_pos h]
      have a1 : (m : Int).tmod 128 = ((m % 128 : Nat) : Int) := rfl
      have a2 : (m : Int).tdiv 128 = ((m / 128 : Nat) : Int) := rfl
      have a3 : IntKind.u8.wrap ((m % 128 : Nat) : Int) = ((m % 128 : Nat) : Int) := Go.IntWalk.u8_in _ (by omega)
      have a4 : IntKind.u8.wrap (((m % 128 : Nat) : Int) + 128) = ((m % 128 + 128 : Nat) : Int) := by
        rw [show ((m % 128 : Nat) : Int) + 128 = ((m % 128 + 128 : Nat) : Int) by omega]; exact Go.IntWalk.u8_in _ (by omega)
      have a5 : IntKind.i64.wrap ((m / 128 : Nat) : Int) = ((m / 128 : Nat) : Int) := Go.IntWalk.i64_in _ (by omega)
      have hq : m % 128 < 128 := by omega
      have hdm : m / 128 < m := by omega
      generalize m % 128 = q at a1 a3 a4 e2 hq
      generalize m / 128 = d at a2 a5 e1 e2 hdm
      have b1 := byteRow_of (q + 128) (by omega)
      generalize UInt8.ofNat (q + 128) = u at b1 e2
      have happ := fun st o => app_accB (st := st) (o := o) (acc := acc) (b := u) (by omega)
      rw [b1] at happ
      simp only [Int.natCast_add, Int.cast_ofNat_Int] at happ a4
      simp [RnbE, h', convA, buildSliceA, fillRows, a1, a2, a3, a4, a5, happ]
      refine ⟨⟨d, acc ++ [u], by omega, by simp; omega⟩, hdm, ⟨rfl, rfl⟩, fun a b hab => ?_⟩
      unfold RnbT at hab ⊢
      rw [e1, e2]
      simpa using hab
    · have h' : ¬ (128 : Int) ≤ m := by omega
      have e1 : leadB m = m := by rw [leadB, if_neg h]
      have e2 : hiB m = [] := by rw [hiB, if_neg h]
      simp [RnbE, RnbT, h', e1, e2])
  clear hL
  cases hT
  have g1 : leadB n < 128 := leadB_lt n
  have g2 : IntKind.u8.wrap ((leadB n : Nat) : Int) = ((leadB n : Nat) : Int) := Go.IntWalk.u8_in _ (by omega)
  have g3 := byteRow_of (leadB n) (by omega)
  have g8 := hiB_len n
  have happ := fun st o => app_accB (st := st) (o := o) (acc := hiB n) (b := UInt8.ofNat (leadB n)) (by omega)
  rw [g3] at happ
  simp [convA, buildSliceA, fillRows, g2, happ]
  have e : optL (hiB n ++ [UInt8.ofNat (leadB n)]) = some (numB n) := by
    unfold optL numB
    rw [if_neg (by simp)]
  rw [e]; rfl
theorem refNumber_call {k : Nat} (n : Nat) (hn : n < 2 ^ 20) (hN : 2 ^ 20 < k) : (handler Try.prog ppol (k + 1)).call (.func 56) [.int .i64 n] S = some (.ret (.sl true 1 ((numB n).map byteRow)), S) := by
  rw [call_func (by rfl), refNumber_run n hn hN]; rfl
theorem refSum_run (own : Bool) (bs : List UInt8) (hN : bs.length < N) (hb : bs.length < 2 ^ 62) : runFn Try.prog H N ppol 57 .none [.sl own 1 (bs.map byteRow)] S = some (.ret (.sl true 1 ((sumBytes bs).map fun v => [v])), .none, S) := by
  rw [runFn_eq Try.func57 (by rfl)]
  simp [Try.f57]
  rw [loop_go (fun k => { env := envOf 31 [(0, .sl own 1 (bs.map byteRow)), (3, .int .u32 (sumOf (bs.take k))), (4, .int .i64 k)], defs := [], par := .none, S := S }) bs.length hN]
  · simp [lenA, convA, buildSliceA, fillRows, sumBytes, IntKind.bits]
  · simp [sumOf]
  · intro k hk
    obtain ⟨b, hbk⟩ : ∃ b, bs[k]? = some b := ⟨_, List.getElem?_eq_getElem hk⟩
    have hb' : bs[k] = b := (List.getElem?_eq_some_iff.1 hbk).2
    have h1 := sumOf_take bs k b hbk
    have h2 : IntKind.i64.wrap ((k : Int) + 1) = k + 1 := Go.IntWalk.i64_in _ (by omega)
    have c1 : (k : Int) < bs.length := by omega
    simp [lenA, c1, indexAddrA, hk, hb', byteRow, convA, h1, h2, sumStep, wrap_byte]
theorem refSum_call {n : Nat} (own : Bool) (bs : List UInt8) (hN : bs.length < n) (hb : bs.length < 2 ^ 62) : (handler Try.prog ppol (n + 1)).call (.func 57) [.sl own 1 (bs.map byteRow)] S = some (.ret (.sl true 1 ((sumB bs).map byteRow)), S) := by
  rw [← sumB_rows]
  exact call_free (free_yes rfl) (by simp) fun _ => refSum_run own bs hN hb
end Go.Ab.Seat
/- The reference's Raw. -/
namespace Go.Ab.Seat
open Go.Proofs
set_option maxRecDepth 100000
set_option maxHeartbeats 1000000
variable {H : Handler} {N : Nat} {S : Sto}
def refRawV (f : FileV) : AV := if rightOk f then .tup [.sl true 1 ((rawB f).map byteRow), .int .i64 0] else .tup [.nilsl, .int .i64 310]
theorem refRaw_run {n : Nat} (f : FileV) (h : Small f 6500) (hn : 2 ^ 20 < n) (hk : SOK S) (hN : 200 < N) : runFn Try.prog (handler Try.prog ppol (n + 10)) N ppol 26 .none [.agg (fileC f)] S = some (.ret (refRawV f), .none, S) := by
  have ccr := refCheck_callN (N := n + 10) (S := S) f h (by omega)
  unfold chk at ccr
  rw [runFn_eq Try.func26 (by rfl)]
  unfold refRawV
  cases hok : rightOk f <;> rw [hok] at ccr
  · simp at ccr
    simp [Try.f26, ccr]
  · simp at ccr
    obtain ⟨hsz1, hsz2⟩ := rightOk_sizes hok
    have hpb := rightOk_parts hok
    have hnm := rightOk_names hok
    have cnum := fun (k : Nat) (hk : k < 2 ^ 20) => refNumber_call (k := n + 9) (S := S) k hk (by omega)
    have c1 := cnum (ol f.parts).length (by omega)
    have hnb := numB_len (ol f.parts).length
    have hmk : markB.length = 4 := rfl
    have happ := fun st o => app_sl (st := st) (o := o) (rows := markB.map byteRow) (more := (numB (ol f.parts).length).map byteRow) (by simp [markB]) (by simp; omega)
    rw [← markRows] at happ
    have hr0 : [[AV.int .u8 80], [.int .u8 77], [.int .u8 73], [.int .u8 77]] ++ (numB (ol f.parts).length).map byteRow = (markB ++ numB (ol f.parts).length).map byteRow := by rw [markRows, List.map_append]
    rw [hr0] at happ
    generalize hB0 : markB ++ numB (ol f.parts).length = B0 at happ
    have hB0l : B0.length ≤ 69 := by rw [← hB0, List.length_append]; omega
    simp [Try.f26, ccr, buildSliceA, fillRows, conv28, c1, happ]
    rw [loop_go (fun k => { env := envOf 85 [(1, .box (fileC f)), (4, .sl true 1 ((B0 ++ partsB 0 ((ol f.parts).take k)).map byteRow)), (5, .int .i64 (lastN 0 ((ol f.parts).take k))), (6, .int .i64 k), (8, .undef)], defs := [], par := .none, S := S }) (ol f.parts).length (by omega)]
    · rw [List.take_of_length_le (Nat.le_refl _)]
      have hlen := partsB_len hpb (ol f.parts).length
      rw [List.take_of_length_le (Nat.le_refl _)] at hlen
      have c2 := cnum (ol f.names).length (by omega)
      have hnb2 := numB_len (ol f.names).length
      generalize hB1 : B0 ++ partsB 0 (ol f.parts) = B1
      have hB1l : B1.length ≤ 69 + 64 * 6200 := by rw [← hB1, List.length_append]; omega
      have happ2 := fun st o => app_sl (st := st) (o := o) (rows := B1.map byteRow) (more := (numB (ol f.names).length).map byteRow) (by simp; omega) (by simp; omega)
      rw [← List.map_append] at happ2
      generalize hB2 : B1 ++ numB (ol f.names).length = B2 at happ2
      have hB2l : B2.length ≤ 140 + 64 * 6200 := by rw [← hB2, List.length_append]; omega
      simp [c2, happ2]
      rw [loop_go (fun k => { env := envOf 85 [(1, .box (fileC f)), (4, .sl true 1 ((B2 ++ ((ol f.names).take k).flatMap symB).map byteRow)), (5, .int .i64 (lastN 0 (ol f.parts))), (6, .int .i64 (ol f.parts).length), (8, .int .i64 k)], defs := [], par := .none, S := S }) (ol f.names).length (by omega)]
      · rw [List.take_of_length_le (Nat.le_refl _)]
        have hlen2 := symsB_len hnm (ol f.names).length
        rw [List.take_of_length_le (Nat.le_refl _)] at hlen2
        have hbody : B2 ++ (ol f.names).flatMap symB = bodyB f := by rw [← hB2, ← hB1, ← hB0]; rfl
        have hbl : (bodyB f).length < 2 ^ 20 := by rw [← hbody, List.length_append]; omega
        rw [hbody]
        have hsum := fun own => refSum_call (n := n + 9) (S := S) own (bodyB f) (by omega) (by omega)
        have happ3 := fun st o => app_sl (st := st) (o := o) (rows := (bodyB f).map byteRow) (more := (sumB (bodyB f)).map byteRow) (by simp; omega) (by simp [sumB])
        rw [← List.map_append, show bodyB f ++ sumB (bodyB f) = rawB f from rfl] at happ3
        simp [hsum, happ3]
      · simp
      · intro k hkl
        obtain ⟨s, hs⟩ : ∃ s, (ol f.names)[k]? = some s := ⟨_, List.getElem?_eq_getElem hkl⟩
        have hso := namesOk_at hnm hs
        have hsl := nameOk_len hso.name
        have hle := hso.le
        have hlen2 := symsB_len hnm k
        have hBk : (B2 ++ ((ol f.names).take k).flatMap symB).length < 2 ^ 30 := by simp only [List.length_append]; omega
        generalize hBB : B2 ++ ((ol f.names).take k).flatMap symB = Bk at hBk
        have c1 : (k : Int) < (ol f.names).length := by omega
        have g7 : IntKind.i64.wrap ((k : Int) + 1) = (k : Int) + 1 := wrap_succ hkl (by omega)
        have g8 : IntKind.u8.wrap (s.name.length : Int) = s.name.length := Go.IntWalk.u8_in _ (by omega)
        have g9 := byteRow_of s.name.length (by omega)
        have happ1 := fun st => app_one (st := st) (o := false) (rows := Bk.map byteRow) (r := [.int .u8 s.name.length]) (by simp; omega)
        have happ2' := fun st => app_str (st := st) (s := s.name) (rows := Bk.map byteRow ++ [[.int .u8 s.name.length]]) (by simp; omega) (by omega)
        generalize hB3 : Bk ++ UInt8.ofNat s.name.length :: s.name = B3
        have hB3r : Bk.map byteRow ++ [[.int .u8 s.name.length]] ++ s.name.map byteRow = B3.map byteRow := by
          rw [← hB3, ← g9]; simp
        rw [hB3r] at happ2'
        have c3 := cnum s.at'.toNat (by omega)
        rw [← hso.at'] at c3
        have hnb3 := numB_len s.at'.toNat
        have happ4 := fun st o => app_sl (st := st) (o := o) (rows := B3.map byteRow) (more := (numB s.at'.toNat).map byteRow) (by rw [← hB3]; simp; omega) (by simp; omega)
        rw [← List.map_append] at happ4
        have e : B3 ++ numB s.at'.toNat = B2 ++ ((ol f.names).take (k + 1)).flatMap symB := by
          rw [take_snoc hs, List.flatMap_append, ← hB3, ← hBB]
          simp [symB]
        rw [e] at happ4
        simp [c1, index_sv Try.underlying23 tycells64 _ hs, writeCells, -List.map_append]
        rw [evDraw_go]
        · simp [convA, g8, buildSliceA, fillRows, happ1, happ2', c3, happ4, g7, -List.map_append, -List.append_assoc]
        · kernel_rfl
    · simp [partsB, lastN]
    · intro k hkl
      obtain ⟨p, hp⟩ : ∃ p, (ol f.parts)[k]? = some p := ⟨_, List.getElem?_eq_getElem hkl⟩
      have hpo := pBad_at (x := 0) hpb hp
      obtain ⟨bs, hbs⟩ : ∃ bs, p.bytes = some bs := by
        cases hb : p.bytes with
        | none => have := hpo.pos; simp [plen, hb, ol] at this
        | some bs => exact ⟨bs, rfl⟩
      have hpl : plen p = bs.length := by simp [plen, hbs, ol]
      have hle := hpo.le
      unfold endN at hle
      have hlen := partsB_len hpb k
      have hBk : (B0 ++ partsB 0 ((ol f.parts).take k)).length < 2 ^ 30 := by simp only [List.length_append]; omega
      have hnext : B0 ++ partsB 0 ((ol f.parts).take (k + 1)) = (B0 ++ partsB 0 ((ol f.parts).take k)) ++ partB (lastN 0 ((ol f.parts).take k)) p := by
        rw [take_snoc hp, partsB_snoc, List.append_assoc]
      have hlast : lastN 0 ((ol f.parts).take (k + 1)) = endN p := by rw [take_snoc hp, lastN_snoc]
      rw [hnext, hlast]
      generalize B0 ++ partsB 0 ((ol f.parts).take k) = Bk at hBk
      generalize hlk : lastN 0 ((ol f.parts).take k) = lk at *
      have hat := hpo.at'
      have hge := hpo.ge
      have hsub : IntKind.i64.wrap ((atN p : Int) - (lk : Int)) = ((atN p - lk : Nat) : Int) := by
        rw [show (atN p : Int) - (lk : Int) = ((atN p - lk : Nat) : Int) by omega]; exact Go.IntWalk.i64_in _ (by omega)
      have hend : IntKind.i64.wrap (p.at' + (ol p.bytes).length) = (endN p : Int) := by
        rw [hat, show (ol p.bytes).length = plen p from rfl]
        unfold endN
        rw [← Int.natCast_add]; exact Go.IntWalk.i64_in _ (by omega)
      have cend := fun own => refEnd_call (n := n + 9) (S := S) p.at' p.bytes own
      simp only [hat, hbs, sv_some] at cend
      have hend2 : IntKind.i64.wrap ((atN p : Int) + ((ol (some bs)).length : Int)) = (endN p : Int) := by
        have := hend
        rw [hat, hbs] at this; exact this
      have d1 := cnum (atN p - lk) (by omega)
      have d2 := cnum bs.length (by omega)
      have q1 := numB_len (atN p - lk)
      have q2 := numB_len bs.length
      have hpB : partB lk p = numB (atN p - lk) ++ numB bs.length ++ bs := by unfold partB; rw [hpl, hbs]; rfl
      have a1 := fun st o => app_sl (st := st) (o := o) (rows := Bk.map byteRow) (more := (numB (atN p - lk)).map byteRow) (by simp; omega) (by simp; omega)
      rw [← List.map_append] at a1
      have a2 := fun st o => app_sl (st := st) (o := o) (rows := (Bk ++ numB (atN p - lk)).map byteRow) (more := (numB bs.length).map byteRow) (by simp; omega) (by simp; omega)
      rw [← List.map_append] at a2
      have a3 := fun st o => app_sl (st := st) (o := o) (rows := (Bk ++ numB (atN p - lk) ++ numB bs.length).map byteRow) (more := bs.map byteRow) (by simp; omega) (by simp; omega)
      rw [← List.map_append] at a3
      have e : Bk ++ numB (atN p - lk) ++ numB bs.length ++ bs = Bk ++ partB lk p := by rw [hpB]; simp only [List.append_assoc]
      rw [e] at a3
      have g7 : IntKind.i64.wrap ((k : Int) + 1) = (k : Int) + 1 := wrap_succ hkl (by omega)
      have hsk := fun x => sK_self (α := AExit × St) hk x
      have c1 : (k : Int) < (ol f.parts).length := by omega
      simp [c1, index_sv Try.underlying22 tycells45 _ hp, writeCells, partRow, hat, hbs, sv_some, -List.map_append]
      rw [evDraw_go]
      · simp [lenA, hsub, d1, d2, a1, a2, a3, hsk, cend, hend2, g7, -List.map_append, -List.append_assoc]
      · kernel_rfl
theorem refRaw_callN (f : FileV) (h : Small f 6500) (hN : 2 ^ 20 + 200 < N) (hk : SOK S) : (handler Try.prog ppol N).call (.func 26) [.agg (fileC f)] S = some (.ret (refRawV f), S) := by
  obtain ⟨n, rfl⟩ : ∃ n, N = n + 11 := ⟨N - 11, by omega⟩
  rw [call_func (by rfl), refRaw_run (n := n) (N := n + 10) f h (by omega) hk (by omega)]; rfl
end Go.Ab.Seat
/- Files that are the same. -/
namespace Go.Ab.Seat
open Go.Proofs
set_option maxRecDepth 100000
set_option maxHeartbeats 1000000
variable {H : Handler} {N : Nat} {S : Sto}
theorem eqStr (d : Nat) (x : List UInt8) : eqA Try.prog (d + 1) 9 (.str x) (.str x) = some true := by
  simp only [eqA, Try.underlying9, beq_self_eq_true]
theorem eqI64 (d : Nat) (x : Int) : eqA Try.prog (d + 1) 3 (.int .i64 x) (.int .i64 x) = some true := by
  simp only [eqA, Try.underlying3, beq_self_eq_true, if_true]
theorem symEqA (d : Nat) (s : SymV) : eqA Try.prog (d + 2) 64 (.agg (symRow s)) (.agg (symRow s)) = some true := by
  have g : Try.prog.stoodInHeld 64 = false := by kernel_rfl
  conv => lhs; unfold eqA
  simp only [Try.underlying64, g, Bool.false_eq_true, if_false]
  have n1 : ¬ "Name" = "_" := by decide
  have n2 : ¬ "At" = "_" := by decide
  simp only [eqFields, n1, n2, if_false, List.drop_zero, tyval9, tyval3, symRow_head, symRow_drop1, List.head?_cons, eqStr, eqI64]
theorem symNe (s : SymV) : binA Try.prog .neq 64 false (.agg (symRow s)) (.agg (symRow s)) = some (.bool false) := by
  have g : Try.prog.eqGuardType Try.prog.depth 64 = false := by kernel_rfl
  have e := symEqA 9998 s
  simp only [binA, g, Bool.false_eq_true, if_false]
  rw [show Op.maxDepth = 9998 + 2 from rfl, e]
  rfl
structure SameF (a b : FileV) : Prop where
  len : (ol a.parts).length = (ol b.parts).length
  part : ∀ (k : Nat) p q, (ol a.parts)[k]? = some p → (ol b.parts)[k]? = some q → p.at' = q.at' ∧ ol p.bytes = ol q.bytes
  names : ol a.names = ol b.names
theorem norm_same (f : FileV) : SameF (normF f) f := by
  have e1 : ol (normF f).parts = (ol f.parts).map normP := ol_optL _
  have e2 : ol (normF f).names = ol f.names := ol_optL _
  refine ⟨by rw [e1, List.length_map], fun k p q hp hq => ?_, e2⟩
  rw [e1, List.getElem?_map, hq] at hp
  simp only [Option.map_some, Option.some.injEq] at hp
  subst hp
  exact ⟨rfl, rfl⟩
theorem refSame_run {n : Nat} (a b : FileV) (h : SameF a b) (h1 : (ol a.parts).length < 2 ^ 30) (h2 : (ol a.names).length < 2 ^ 30) (hN1 : (ol a.parts).length < N) (hN2 : (ol a.names).length < N) (_hk : SOK S) :
    runFn Try.prog (handler Try.prog ppol n) N ppol 13 .none [.agg (fileC a), .agg (fileC b)] S = some (.ret (.bool true), .none, S) := by
  rw [runFn_eq Try.func13 (by rfl)]
  obtain ⟨hl, hp, hn⟩ := h
  simp [Try.f13, hl, hn]
  rw [loop_go (fun k => { env := envOf 78 [(2, .box (fileC a)), (3, .box (fileC b)), (5, .int .i64 k), (6, .undef)], defs := [], par := .none, S := S }) (ol a.parts).length hN1]
  · simp
    rw [loop_go (fun k => { env := envOf 78 [(2, .box (fileC a)), (3, .box (fileC b)), (5, .int .i64 (ol a.parts).length), (6, .int .i64 k)], defs := [], par := .none, S := S }) (ol a.names).length hN2]
    · simp
    · simp
    · intro k hkl
      obtain ⟨s, hs⟩ : ∃ s, (ol a.names)[k]? = some s := ⟨_, List.getElem?_eq_getElem hkl⟩
      have hs' : (ol b.names)[k]? = some s := by rw [← hn]; exact hs
      have g7 : IntKind.i64.wrap ((k : Int) + 1) = (k : Int) + 1 := wrap_succ hkl (by omega)
      have c1 : (k : Int) < (ol a.names).length := by omega
      simp [c1]
      rw [evDraw_go]
      · simp [index_sv Try.underlying23 tycells64 _ hs, index_sv Try.underlying23 tycells64 _ hs', symNe, g7]
      · kernel_rfl
  · simp
  · intro k hkl
    obtain ⟨p, hp1⟩ : ∃ p, (ol a.parts)[k]? = some p := ⟨_, List.getElem?_eq_getElem hkl⟩
    obtain ⟨q, hq1⟩ : ∃ q, (ol b.parts)[k]? = some q := ⟨_, List.getElem?_eq_getElem (by omega)⟩
    obtain ⟨r1, r2⟩ := hp k p q hp1 hq1
    have g7 : IntKind.i64.wrap ((k : Int) + 1) = (k : Int) + 1 := wrap_succ hkl (by omega)
    have c1 : (k : Int) < (ol a.parts).length := by omega
    simp [c1]
    rw [evDraw_go]
    · simp [index_sv Try.underlying22 tycells45 _ hp1, index_sv Try.underlying22 tycells45 _ hq1, partRow, r1, r2, conv_sv, g7]
    · kernel_rfl
theorem symsEq_run {n : Nat} (o1 o2 : Bool) (a b : Option (List SymV)) (h : ol a = ol b) (h2 : (ol a).length < 2 ^ 30) (hN : (ol a).length < N) :
    runFn Try.prog (handler Try.prog ppol n) N ppol 59 .none [sv o1 2 symRow a, sv o2 2 symRow b] S = some (.ret (.bool true), .none, S) := by
  rw [runFn_eq Try.func59 (by rfl)]
  have hlen : (ol a).length = (ol b).length := by rw [h]
  simp [Try.f59, h]
  rw [loop_go (fun k => { env := envOf 26 [(0, sv o1 2 symRow a), (1, sv o2 2 symRow b), (12, .int .i64 (ol b).length), (13, .int .i64 k)], defs := [], par := .none, S := S }) (ol b).length (by omega)]
  · simp
  · simp
  · intro k hkl
    obtain ⟨s, hs⟩ : ∃ s, (ol b)[k]? = some s := ⟨_, List.getElem?_eq_getElem hkl⟩
    have hs' : (ol a)[k]? = some s := by rw [h]; exact hs
    have g7 : IntKind.i64.wrap ((k : Int) + 1) = (k : Int) + 1 := wrap_succ hkl (by omega)
    have c1 : (k : Int) < (ol b).length := by omega
    simp [c1]
    rw [evDraw_go]
    · simp [index_sv Try.underlying23 tycells64 _ hs, index_sv Try.underlying23 tycells64 _ hs', symNe, g7]
    · kernel_rfl
theorem equalS_call {n : Nat} (o1 o2 : Bool) (a b : Option (List UInt8)) (h : ol a = ol b) (hN : (ol a).length < n) (ha : (ol a).length < 2 ^ 62) : (handler Try.prog ppol (n + 1)).call (.func 37) [sv o1 1 byteRow a, sv o2 1 byteRow b] S = some (.ret (.bool true), S) := by
  have := equal_run (n := n) (N := n) (S := S) o1 o2 a b hN ha (by rw [← h]; exact ha)
  rw [call_func (by rfl), this, h]; simp
theorem partSame_call {n : Nat} (p q : PartV) (h1 : p.at' = q.at') (h2 : ol p.bytes = ol q.bytes) (hN : (ol p.bytes).length < n) (hb : (ol p.bytes).length < 2 ^ 40) : (handler Try.prog ppol (n + 2)).call (.func 61) [.agg (partRow p), .agg (partRow q)] S = some (.ret (.bool true), S) := by
  have e := fun o1 o2 => equalS_call (n := n) (S := S) o1 o2 p.bytes q.bytes h2 hN (by omega)
  rw [call_func (by rfl), runFn_eq Try.func61 (by rfl)]
  simp [Try.f61, h1, e]
theorem partsEq_run {n : Nat} (a b : Option (List PartV)) (hl : (ol a).length = (ol b).length) (hp : ∀ (k : Nat) p q, (ol a)[k]? = some p → (ol b)[k]? = some q → p.at' = q.at' ∧ ol p.bytes = ol q.bytes)
    (hs : ∀ p ∈ ol a, (ol p.bytes).length < 2 ^ 13) (hn : 2 ^ 13 < n) (h2 : (ol a).length < 2 ^ 30) (hN : (ol a).length < N) :
    runFn Try.prog (handler Try.prog ppol (n + 2)) N ppol 60 .none [sv false 2 partRow a, sv false 2 partRow b, .fn (.func 61) [] []] S = some (.ret (.bool true), .none, S) := by
  rw [runFn_eq Try.func60 (by rfl)]
  simp [Try.f60, hl]
  rw [loop_go (fun k => { env := envOf 32 [(1, sv false 2 partRow b), (2, .fn (.func 61) [] []), (15, sv false 2 partRow a), (16, .int .i64 (ol b).length), (17, .int .i64 k)], defs := [], par := .none, S := S }) (ol b).length (by omega)]
  · simp
  · simp
  · intro k hkl
    obtain ⟨p, hp1⟩ : ∃ p, (ol a)[k]? = some p := ⟨_, List.getElem?_eq_getElem (by omega)⟩
    obtain ⟨q, hq1⟩ : ∃ q, (ol b)[k]? = some q := ⟨_, List.getElem?_eq_getElem hkl⟩
    obtain ⟨r1, r2⟩ := hp k p q hp1 hq1
    have hb := hs p (List.mem_of_getElem? hp1)
    have g7 : IntKind.i64.wrap ((k : Int) + 1) = (k : Int) + 1 := wrap_succ hkl (by omega)
    have c := partSame_call (n := n) (S := S) p q r1 r2 (by omega) (by omega)
    simp [hkl, index_sv Try.underlying22 tycells45 _ hp1, index_sv Try.underlying22 tycells45 _ hq1, writeCells, c, g7]
theorem same_run {n : Nat} (a b : FileV) (h : SameF a b) (hs : ∀ p ∈ ol a.parts, (ol p.bytes).length < 2 ^ 13) (hn : 2 ^ 13 < n) (h1 : (ol a.parts).length < 2 ^ 13) (h2 : (ol a.names).length < 2 ^ 13) :
    runFn Try.prog (handler Try.prog ppol (n + 3)) N ppol 28 .none [.agg (fileC a), .agg (fileC b)] S = some (.ret (.bool true), .none, S) := by
  have c1 := fun o1 o2 => symsEq_run (n := n + 2) (N := n + 2) (S := S) o1 o2 a.names b.names h.names (by omega) (by omega)
  have c1' : ∀ o1 o2, (handler Try.prog ppol (n + 3)).call (.func 59) [sv o1 2 symRow a.names, sv o2 2 symRow b.names] S = some (.ret (.bool true), S) := fun o1 o2 => by
    rw [call_func (by rfl), c1]; rfl
  have c2 := partsEq_run (n := n) (N := n + 2) (S := S) a.parts b.parts h.len h.part hs hn (by omega) (by omega)
  have c2' : (handler Try.prog ppol (n + 3)).call (.func 60) [sv false 2 partRow a.parts, sv false 2 partRow b.parts, .fn (.func 61) [] []] S = some (.ret (.bool true), S) := by
    rw [call_func (by rfl), c2]; rfl
  rw [runFn_eq Try.func28 (by rfl)]
  simp [Try.f28, c1', c2']
end Go.Ab.Seat
/- The law ImageRaws, and its row. -/
namespace Go.Ab.Seat
open Go.Proofs
set_option maxRecDepth 100000
set_option maxHeartbeats 1000000
variable {H : Handler} {N : Nat} {S : Sto}
theorem check_callN (f : FileV) (h : Small f 6500) (hN : 6600 < N) : ∃ S', (handler Try.prog ppol N).call (.func 27) [.agg (fileC f)] S = some (.ret (.int .i64 (chk f)), S') ∧ Grew [] S S' := by
  obtain ⟨n, rfl⟩ : ∃ n, N = n + 7 := ⟨N - 7, by omega⟩
  exact check_call f (h.up (by omega))
theorem refSame_callN (a b : FileV) (h : SameF a b) (h1 : (ol a.parts).length < 2 ^ 13) (h2 : (ol a.names).length < 2 ^ 13) (hN : 2 ^ 20 < N) (hk : SOK S) : (handler Try.prog ppol N).call (.func 13) [.agg (fileC a), .agg (fileC b)] S = some (.ret (.bool true), S) := by
  obtain ⟨n, rfl⟩ : ∃ n, N = n + 1 := ⟨N - 1, by omega⟩
  rw [call_func (by rfl), refSame_run (n := n) (N := n) a b h (by omega) (by omega) (by omega) (by omega) hk]; rfl
theorem same_callN (a b : FileV) (h : SameF a b) (hs : ∀ p ∈ ol a.parts, (ol p.bytes).length < 2 ^ 13) (h1 : (ol a.parts).length < 2 ^ 13) (h2 : (ol a.names).length < 2 ^ 13) (hN : 2 ^ 20 < N) : (handler Try.prog ppol N).call (.func 28) [.agg (fileC a), .agg (fileC b)] S = some (.ret (.bool true), S) := by
  obtain ⟨n, rfl⟩ : ∃ n, N = n + 4 := ⟨N - 4, by omega⟩
  rw [call_func (by rfl), same_run (n := n) (N := n + 3) a b h hs (by omega) h1 h2]; rfl
theorem conv_nil : convA Try.prog 28 9 .nilsl = some (.str []) := conv_sv false none
theorem raws_run (f : FileV) (hm : 2 ^ 20 + 200 < N) (hk : SOK S) :
    ∃ S', runFn Try.prog (handler Try.prog ppol N) N ppol 7 .none [.agg (fileC f)] S = some (.ret (.bool true), .none, S') := by
  have cw := fun S => works_call (N := N) (S := S) (by omega)
  have cn := fun S e => num_call (N := N) (S := S) e (by omega)
  have cf := few_call (N := N) (S := S) f (by omega)
  rw [runFn_eq Try.func7 (by rfl)]
  cases hfew : fewOf f <;> rw [hfew] at cf
  · refine ⟨S, ?_⟩
    simp [Try.f7, cf, cw]
  have hsm := few_small (n := 6500) hfew (by omega)
  obtain ⟨S1, cr, hg1⟩ := raw_callN (N := N) (S := S) f hsm hm hk
  have hk1 := hg1.sok hk
  have cq := refRaw_callN (N := N) (S := S1) f hsm hm hk1
  obtain ⟨S2, cc, hg2⟩ := check_callN (N := N) (S := S1) f hsm (by omega)
  have hk2 := hg2.sok hk1
  have cd := refCheck_callN (N := N) (S := S2) f hsm (by omega)
  have hs1 := fun x => sK_grew (α := AExit × St) hk1 hg2 x
  have hs2 := fun x => sK_self (α := AExit × St) hk2 x
  unfold rawV at cr
  unfold refRawV at cq
  unfold chk at cc cd
  cases hok : rightOk f
  · rw [hok] at cr cq cc cd
    simp only [Bool.false_eq_true, if_false] at cr cq cc cd
    refine ⟨S2, ?_⟩
    simp [Try.f7, cf, cr, cq]
    rw [evDraw_go]
    · simp [cc, cd, cn, hs1, hs2, conv_nil, cw]
    · kernel_rfl
  · rw [hok] at cr cq cc cd
    simp only [if_true] at cr cq cc cd
    have hl := rawB_len hok
    obtain ⟨S3, ce, hg3⟩ := read_callN (N := N) (S := S2) (rawB f) hl hm hk2
    rw [raw_read hok] at ce
    have hk3 := hg3.sok hk2
    have hsa := norm_same f
    have e1 : ol (normF f).parts = (ol f.parts).map normP := ol_optL _
    have e2 : ol (normF f).names = ol f.names := ol_optL _
    have cs1 := refSame_callN (N := N) (S := S3) (normF f) f hsa (by rw [e1, List.length_map]; have := hsm.parts; omega) (by rw [e2]; have := hsm.names; omega) (by omega) hk3
    have cs2 := same_callN (N := N) (S := S3) (normF f) f hsa (fun p hp => by
      rw [e1] at hp
      obtain ⟨q, hq, rfl⟩ := List.mem_map.1 hp
      have := pBad_each (rightOk_parts hok) q hq
      show (ol q.bytes).length < _
      omega) (by rw [e1, List.length_map]; have := hsm.parts; omega) (by rw [e2]; have := hsm.names; omega) (by omega)
    have hcs := fun o => conv_str o (rawB f)
    refine ⟨S3, ?_⟩
    simp [Try.f7, cf, cr, cq]
    rw [evDraw_go]
    · simp [cc, cd, cn, hs1, hs2, hcs, ce, cs1, cs2, cw, writeCells]
    · kernel_rfl
end Go.Ab.Seat
namespace Go.Proofs.Ytooahmehpnbfgaa
open Go.Ab Go.Ab.Seat Go.ChangeShapes Go.WideShapes Go.ChangeAt Go.RowKit
set_option maxRecDepth 100000 in
theorem imageRaws_lifted (os : Os) (started : os.Started) (H : Type) (enc : TypeId × Value → H) :
    ReturnsInHanded {} Try.checked os 7 .any (Rows.imageRawsSpec.pre6 enc Try.prog Try.f7 Rows.imageRawsRow.domain false) (Rows.imageRawsSpec.post enc Try.prog Try.f7 false true false false) := by
  refine lifted_of_ev (C := Try.checked) (rt := 4) started seatOwn (by kernel_rfl) Try.func7
    (ChangeSpec.witness6 (enc := enc) (C := Try.checked) false ⟨#[], #[.agg #[.slice none 0 0, .slice none 0 0]], []⟩ 8 (by kernel_rfl) (by kernel_rfl) (by kernel_rfl) (by kernel_rfl))
    fine seatLaid ?_ ?_ ?_ ?_ ppol ?_
  · intro t ht
    rw [show Try.f7.params.toList = [25] from rfl] at ht
    simp only [List.mem_cons, List.not_mem_nil, or_false] at ht
    subst ht
    exact ⟨by kernel_rfl, of_decide_eq_true (by kernel_rfl)⟩
  · rfl
  · exact Try.underlying4
  · refine ⟨rfl, fun H ds hds => ?_⟩
    match ds, hds with
    | [d1], _ => exact ⟨rfl, rfl, rfl⟩
  · intro W args ds ps hval hA
    obtain ⟨base, hval⟩ := hval
    have hA : DataW.TrodAll enc Try.prog W 0 (fun _ => true) true [25] args ds ps := hA
    obtain ⟨v0, vs0, d0, ds0, p0, q0, rfl, rfl, rfl, h0, r0⟩ := trodAll_cons hA
    obtain ⟨rfl, rfl, rfl⟩ := trodAll_nil r0
    obtain ⟨cs, rfl, -⟩ := okWide_struct Try.underlying25 (hval 0 25 v0 rfl rfl)
    obtain ⟨f, -, k0⟩ := arg_agg reads_file h0
    refine ⟨[.agg (fileC f)], k0, 2 ^ 20 + 201, ?_⟩
    obtain ⟨S', e⟩ := raws_run (N := 2 ^ 20 + 201) (S := { heap := [], next := 0 }) f (by omega) (SOK.nil 0)
    exact ⟨_, S', e⟩
theorem imageRaws_holds : Rows.ImageRawsSaid :=
  OpenClaim.holds_of_wide 7 Try.f7 rfl rfl rfl rfl rfl rfl rfl ⟨rfl, rfl, rfl, rfl, rfl⟩ rfl rfl rfl rfl rfl (by kernel_rfl) Try.func7 (by kernel_rfl)
    (of_decide_eq_true (by kernel_rfl)) (by unfold Func.isWrapper; first | (rw [if_pos (by decide +kernel)]; kernel_rfl) | (rw [if_neg (by decide +kernel)]; exact ⟨rfl, rfl⟩))
    (fun os started H enc _ => imageRaws_lifted os started H enc)
#print axioms imageRaws_holds
end Go.Proofs.Ytooahmehpnbfgaa
