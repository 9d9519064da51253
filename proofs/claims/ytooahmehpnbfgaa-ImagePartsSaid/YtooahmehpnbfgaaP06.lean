import Derived.Test.YtooahmehpnbfgaaP05
/- The reference's names are the program's. -/
namespace Go.Ab.Seat
open Go.Proofs
set_option maxRecDepth 100000
set_option maxHeartbeats 1000000
variable {H : Handler} {N : Nat} {S : Sto}
def opN (k : Nat) : List UInt8 := (rowsL[k]?.map (·.1)).getD []
theorem opName_run : ∀ k : Nat, k < 28 → runFn Try.prog H N ppol 96 .none [.int .i64 ((k : Int) + 1)] S = some (.ret (.str (opN (k + 1))), .none, S)
  | 0, _ => by kernel_rfl
  | 1, _ => by kernel_rfl
  | 2, _ => by kernel_rfl
  | 3, _ => by kernel_rfl
  | 4, _ => by kernel_rfl
  | 5, _ => by kernel_rfl
  | 6, _ => by kernel_rfl
  | 7, _ => by kernel_rfl
  | 8, _ => by kernel_rfl
  | 9, _ => by kernel_rfl
  | 10, _ => by kernel_rfl
  | 11, _ => by kernel_rfl
  | 12, _ => by kernel_rfl
  | 13, _ => by kernel_rfl
  | 14, _ => by kernel_rfl
  | 15, _ => by kernel_rfl
  | 16, _ => by kernel_rfl
  | 17, _ => by kernel_rfl
  | 18, _ => by kernel_rfl
  | 19, _ => by kernel_rfl
  | 20, _ => by kernel_rfl
  | 21, _ => by kernel_rfl
  | 22, _ => by kernel_rfl
  | 23, _ => by kernel_rfl
  | 24, _ => by kernel_rfl
  | 25, _ => by kernel_rfl
  | 26, _ => by kernel_rfl
  | 27, _ => by kernel_rfl
  | k + 28, h => absurd h (by omega)
theorem opName_call {n : Nat} {k : Nat} (h : k < 28) : (handler Try.prog ppol (n + 1)).call (.func 96) [.int .i64 ((k : Int) + 1)] S = some (.ret (.str (opN (k + 1))), S) := by
  rw [call_func (by rfl), opName_run k h]; rfl
theorem isNum_iff (s : List UInt8) : isNum s = true ↔ ∃ k, k < 28 ∧ opN (k + 1) = s := by
  have hlen : rowsL.length = 29 := rfl
  unfold isNum
  rw [List.any_eq_true]
  constructor
  · rintro ⟨r, hr, he⟩
    obtain ⟨i, hi⟩ := List.mem_iff_getElem?.1 hr
    rw [List.getElem?_drop] at hi
    have hlt := (List.getElem?_eq_some_iff.1 hi).1
    refine ⟨i, by omega, ?_⟩
    unfold opN
    rw [Nat.add_comm i 1, hi]
    simpa using he
  · rintro ⟨k, hk, he⟩
    have hlt : k + 1 < rowsL.length := by omega
    refine ⟨rowsL[k + 1], ?_, ?_⟩
    · exact List.mem_iff_getElem?.2 ⟨k, by rw [List.getElem?_drop, Nat.add_comm 1 k]; exact List.getElem?_eq_getElem hlt⟩
    · unfold opN at he
      rw [List.getElem?_eq_getElem hlt] at he
      simpa using he
theorem opOf_run {n : Nat} (s : List UInt8) (hN : 29 < N) : ∃ r : Int, runFn Try.prog (handler Try.prog ppol (n + 1)) N ppol 79 .none [.str s] S = some (.ret (.int .i64 r), .none, S) ∧ (0 < r ↔ isNum s = true) := by
  rcases first_or_all (fun k => opN (k + 1) = s) 28 with ⟨m, h1, h2, h3⟩ | h
  · refine ⟨(m : Int) + 1, ?_, ?_⟩
    · rw [runFn_eq Try.func79 (by rfl)]
      simp [Try.f79]
      rw [loop_go (fun k => { env := envOf 13 [(0, .str s), (3, .int .i64 ((k : Int) + 1))], defs := [], par := .none, S := S }) m (by omega)]
      · have e1 : (m : Int) + 1 ≤ 28 := by omega
        have c := opName_call (n := n) (S := S) h1
        rw [h2] at c
        simp [e1, c]
      · simp
      · intro k hk
        have e1 : (k : Int) + 1 ≤ 28 := by omega
        have c := opName_call (n := n) (S := S) (k := k) (by omega)
        have hne : (opN (k + 1) == s) = false := by rw [beq_eq_false_iff_ne]; exact h3 k hk
        have w : IntKind.i64.wrap ((k : Int) + 1 + 1) = (k : Int) + 1 + 1 := Go.IntWalk.i64_in _ (by omega)
        simp [e1, c, hne, w]
    · constructor
      · intro _; exact (isNum_iff s).2 ⟨m, h1, h2⟩
      · intro _; omega
  · refine ⟨0, ?_, ?_⟩
    · rw [runFn_eq Try.func79 (by rfl)]
      simp [Try.f79]
      rw [loop_go (fun k => { env := envOf 13 [(0, .str s), (3, .int .i64 ((k : Int) + 1))], defs := [], par := .none, S := S }) 28 (by omega)]
      · simp
      · simp
      · intro k hk
        have e1 : (k : Int) + 1 ≤ 28 := by omega
        have c := opName_call (n := n) (S := S) (k := k) (by omega)
        have hne : (opN (k + 1) == s) = false := by rw [beq_eq_false_iff_ne]; exact h k hk
        have w : IntKind.i64.wrap ((k : Int) + 1 + 1) = (k : Int) + 1 + 1 := Go.IntWalk.i64_in _ (by omega)
        simp [e1, c, hne, w]
    · constructor
      · intro h0; omega
      · intro hn
        obtain ⟨k, hk, he⟩ := (isNum_iff s).1 hn
        exact absurd he (h k hk)
def lowB (b : UInt8) : Bool := decide (97 ≤ b.toNat) && decide (b.toNat ≤ 122)
def digB (b : UInt8) : Bool := decide (48 ≤ b.toNat) && decide (b.toNat ≤ 57)
theorem letter_run (b : UInt8) : runFn Try.prog H N ppol 78 .none [.int .u8 b.toNat] S = some (.ret (.bool (lowB b)), .none, S) := by
  rw [runFn_eq Try.func78 (by rfl)]
  unfold lowB
  have e1 : ((97 : Int) ≤ b.toNat) = (97 ≤ b.toNat) := by rw [eq_iff_iff]; omega
  have e2 : ((b.toNat : Int) ≤ 122) = (b.toNat ≤ 122) := by rw [eq_iff_iff]; omega
  by_cases h1 : 97 ≤ b.toNat <;> by_cases h2 : b.toNat ≤ 122 <;> simp [Try.f78, e1, e2, h1, h2]
theorem letter_call {n : Nat} (b : UInt8) : (handler Try.prog ppol (n + 1)).call (.func 78) [.int .u8 b.toNat] S = some (.ret (.bool (lowB b)), S) := by
  rw [call_func (by rfl), letter_run]; rfl
theorem digit_run (b : UInt8) : runFn Try.prog H N ppol 81 .none [.int .u8 b.toNat] S = some (.ret (.bool (digB b)), .none, S) := by
  rw [runFn_eq Try.func81 (by rfl)]
  unfold digB
  have e1 : ((48 : Int) ≤ b.toNat) = (48 ≤ b.toNat) := by rw [eq_iff_iff]; omega
  have e2 : ((b.toNat : Int) ≤ 57) = (b.toNat ≤ 57) := by rw [eq_iff_iff]; omega
  by_cases h1 : 48 ≤ b.toNat <;> by_cases h2 : b.toNat ≤ 57 <;> simp [Try.f81, e1, e2, h1, h2]
theorem digit_call {n : Nat} (b : UInt8) : (handler Try.prog ppol (n + 1)).call (.func 81) [.int .u8 b.toNat] S = some (.ret (.bool (digB b)), S) := by
  rw [call_func (by rfl), digit_run]; rfl
theorem regR_run (s : List UInt8) (hs : s.length < 2 ^ 62) : runFn Try.prog H N ppol 80 .none [.str s] S = some (.ret (.int .i64 (regOf s)), .none, S) := by
  rw [runFn_eq Try.func80 (by rfl)]
  by_cases h2 : s.length = 2
  · obtain ⟨a, b, rfl⟩ : ∃ a b, s = [a, b] := by
      match s, h2 with
      | [a, b], _ => exact ⟨a, b, rfl⟩
    have hb := b.toNat_lt
    by_cases h3 : a.toNat = 114
    · have e3 : ((a.toNat : Int) == 114) = true := by rw [beq_iff_eq]; omega
      by_cases h4 : b.toNat < 48
      · have e4 : ¬ (48 : Int) ≤ b.toNat := by omega
        simp [Try.f80, indexA, e3, e4, regOf, h3]; omega
      · have e4 : (48 : Int) ≤ b.toNat := by omega
        by_cases h5 : 55 < b.toNat
        · have e5 : ¬ (b.toNat : Int) ≤ 55 := by omega
          simp [Try.f80, indexA, e3, e4, e5, regOf, h3]; omega
        · have e5 : (b.toNat : Int) ≤ 55 := by omega
          have e6 : IntKind.u8.wrap ((b.toNat : Int) - 48) = (b.toNat : Int) - 48 := Go.IntWalk.u8_in _ (by omega)
          have e7 : IntKind.i64.wrap ((b.toNat : Int) - 48) = (b.toNat : Int) - 48 := Go.IntWalk.i64_in _ (by omega)
          simp [Try.f80, indexA, e3, e4, e5, e6, e7, convA, regOf, h3]; omega
    · have e3 : ((a.toNat : Int) == 114) = false := by rw [beq_eq_false_iff_ne]; omega
      simp [Try.f80, indexA, e3, regOf, h3]
  · have e2 : ((s.length : Int) == 2) = false := by rw [beq_eq_false_iff_ne]; omega
    have : regOf s = -1 := by
      unfold regOf
      split
      · exact absurd rfl h2
      · rfl
    simp [Try.f80, e2, this]
theorem regR_call {n : Nat} (s : List UInt8) (hs : s.length < 2 ^ 62) : (handler Try.prog ppol (n + 1)).call (.func 80) [.str s] S = some (.ret (.int .i64 (regOf s)), S) := by
  rw [call_func (by rfl), regR_run s hs]; rfl
def bOk (b : UInt8) : Bool := lowB b || digB b
theorem odd_byte (b : UInt8) : oddOf (b.toNat : Int) = !bOk b := by
  unfold oddOf bOk lowB digB
  have hb := b.toNat_lt
  by_cases h1 : 97 ≤ b.toNat <;> by_cases h2 : b.toNat ≤ 122 <;> by_cases h3 : 48 ≤ b.toNat <;> by_cases h4 : b.toNat ≤ 57 <;> simp [h1, h2, h3, h4] <;> omega
theorem scan_all (s : ByteArray) : ∀ (n p : Nat), s.size ≤ p + n → (scanOf s n p < 0 ↔ ∀ i, p ≤ i → (h : i < s.size) → bOk (s[i]'h) = true)
  | 0, p, hn => by
    constructor
    · intro _ i hi h; omega
    · intro _; show (-1 : Int) < 0; omega
  | n + 1, p, hn => by
    by_cases hp : p < s.size
    · by_cases ha : (s[p]'hp).toNat < 128
      · have hd := decode_ascii s p hp ha
        cases hb : bOk (s[p]'hp)
        · have ho : oddOf ((s[p]'hp).toNat : Int) = true := by rw [odd_byte, hb]; rfl
          have hs : scanOf s (n + 1) p = p := by simp [scanOf, hp, hd, ho]
          rw [hs]
          constructor
          · intro h; omega
          · intro h; have := h p (Nat.le_refl _) hp; rw [hb] at this; cases this
        · have ho : oddOf ((s[p]'hp).toNat : Int) = false := by rw [odd_byte, hb]; rfl
          have hs : scanOf s (n + 1) p = scanOf s n (p + 1) := by simp [scanOf, hp, hd, ho]
          rw [hs, scan_all s n (p + 1) (by omega)]
          constructor
          · intro h i hi hlt
            by_cases e : i = p
            · subst e; exact hb
            · exact h i (by omega) hlt
          · intro h i hi hlt; exact h i (by omega) hlt
      · have hd := (decode_high s p hp (by omega)).1
        have ho : oddOf ((Utf8.decode s p).1 : Int) = true := by
          have h1 : (122 : Int) < (Utf8.decode s p).1 := by omega
          have h2 : (57 : Int) < (Utf8.decode s p).1 := by omega
          simp [oddOf, h1, h2]
        have hs : scanOf s (n + 1) p = p := by simp [scanOf, hp, ho]
        rw [hs]
        constructor
        · intro h; omega
        · intro h
          have := h p (Nat.le_refl _) hp
          unfold bOk lowB digB at this
          simp only [Bool.or_eq_true, Bool.and_eq_true, decide_eq_true_eq] at this
          omega
    · have hs : scanOf s (n + 1) p = -1 := scan_end _ hp
      rw [hs]
      constructor
      · intro _ i hi h; omega
      · intro _; omega
theorem scan_str (s : List UInt8) : decide (scanOf ⟨s.toArray⟩ s.length 0 < 0) = s.all bOk := by
  have h := scan_all ⟨s.toArray⟩ s.length 0 (by simp [ByteArray.size])
  rw [Bool.eq_iff_iff, decide_eq_true_iff, h, List.all_eq_true]
  constructor
  · intro h b hb
    obtain ⟨i, hi, rfl⟩ := List.mem_iff_getElem.1 hb
    exact h i (by omega) (by simpa [ByteArray.size] using hi)
  · intro h i _ hi
    exact h _ (by show s.toArray[i]'(by simpa [ByteArray.size] using hi) ∈ s; simp)
end Go.Ab.Seat
/- The reference's Name is the program's. -/
namespace Go.Ab.Seat
open Go.Proofs
set_option maxRecDepth 100000
set_option maxHeartbeats 1000000
variable {H : Handler} {N : Nat} {S : Sto}
theorem opOf_call {n : Nat} (s : List UInt8) (hn : 30 < n) : ∃ r : Int, (handler Try.prog ppol (n + 2)).call (.func 79) [.str s] S = some (.ret (.int .i64 r), S) ∧ (0 < r ↔ isNum s = true) := by
  obtain ⟨r, h1, h2⟩ := opOf_run (n := n) (N := n + 1) (S := S) s (by omega)
  exact ⟨r, by rw [call_func (by rfl), h1]; rfl, h2⟩
theorem index_str {s : List UInt8} {k : Nat} {b : UInt8} (h : s[k]? = some b) : indexA Try.prog 9 (.str s) (.int .i64 k) = some (.int .u8 b.toNat) := by
  simp [indexA, h]
def wAt : List UInt8 := [97, 116]
def wWord : List UInt8 := [119, 111, 114, 100]
def wByte : List UInt8 := [98, 121, 116, 101]
def wText : List UInt8 := [116, 101, 120, 116]
def refNm (s : List UInt8) : Bool := nameA s && !isNum s && decide (regOf s < 0) && !(s == wAt) && !(s == wWord) && !(s == wByte) && !(s == wText) && s.all bOk
theorem refNm_eq (s : List UInt8) : refNm s = nameOk s := by
  unfold refNm nameOk nameB
  rw [scan_str]
  have e : decide (s ∈ wordsL) = ((s == wAt) || (s == wWord) || (s == wByte) || (s == wText)) := by
    rw [Bool.eq_iff_iff]
    simp only [decide_eq_true_eq, Bool.or_eq_true, beq_iff_eq]
    show s ∈ [wAt, wWord, wByte, wText] ↔ _
    simp only [List.mem_cons, List.not_mem_nil, or_false, or_assoc]
  rw [e]
  cases nameA s <;> cases isNum s <;> cases decide (regOf s < 0) <;> cases (s == wAt) <;> cases (s == wWord) <;> cases (s == wByte) <;> cases (s == wText) <;> cases s.all bOk <;> rfl
theorem nameA_cons {s : List UInt8} {c : UInt8} (h : s[0]? = some c) : nameA s = (decide (s.length ≤ 16) && lowB c) := by
  cases s with
  | nil => cases h
  | cons d r =>
    simp only [List.getElem?_cons_zero, Option.some.injEq] at h
    subst h
    show (decide (r.length < 16) && decide (97 ≤ d.toNat) && decide (d.toNat ≤ 122)) = _
    have : decide (r.length < 16) = decide ((d :: r).length ≤ 16) := by rw [decide_eq_decide]; simp only [List.length_cons]; omega
    rw [this, Bool.and_assoc]; rfl
theorem refName_run {n : Nat} (s : List UInt8) (hs : s.length < 2 ^ 30) (hN : s.length < N) (hn : 40 < n) : runFn Try.prog (handler Try.prog ppol (n + 2)) N ppol 52 .none [.str s] S = some (.ret (.bool (refNm s)), .none, S) := by
  obtain ⟨r, cop, hr⟩ := opOf_call (n := n) (S := S) s (by omega)
  have creg := regR_call (n := n + 1) (S := S) s (by omega)
  have clet := fun b => letter_call (n := n + 1) (S := S) b
  have cdig := fun b => digit_call (n := n + 1) (S := S) b
  rw [runFn_eq Try.func52 (by rfl)]
  rcases hs0 : s[0]? with _ | c
  · have : s = [] := by
      cases s with
      | nil => rfl
      | cons a b => cases hs0
    subst this
    simp [Try.f52, refNm, nameA]
  have hi0 := index_str hs0
  rw [show ((0 : Nat) : Int) = 0 from rfl] at hi0
  have hpos : ¬ (s.length : Int) < 1 := by have := (List.getElem?_eq_some_iff.1 hs0).1; omega
  have hA := nameA_cons hs0
  unfold refNm
  rw [hA]
  by_cases h16 : 16 < s.length
  · have g16 : (16 : Int) < s.length := by omega
    have d16 : decide (s.length ≤ 16) = false := by rw [decide_eq_false_iff_not]; omega
    simp [Try.f52, hpos, g16, d16]
  have g16 : ¬ (16 : Int) < s.length := by omega
  have d16 : decide (s.length ≤ 16) = true := by rw [decide_eq_true_iff]; omega
  rw [d16, Bool.true_and]
  cases hl : lowB c
  · simp [Try.f52, hpos, g16, hi0, clet, hl]
  cases hnum : isNum s
  rotate_left
  · have hr0 : 0 < r := hr.2 hnum
    simp [Try.f52, hpos, g16, hi0, clet, hl, cop, hr0]
  have hr0 : ¬ 0 < r := fun h => by have := hr.1 h; rw [hnum] at this; cases this
  by_cases hreg : 0 ≤ regOf s
  · have dreg : decide (regOf s < 0) = false := by rw [decide_eq_false_iff_not]; omega
    simp [Try.f52, hpos, g16, hi0, clet, hl, cop, hr0, creg, hreg, dreg]
  have dreg : decide (regOf s < 0) = true := by rw [decide_eq_true_iff]; omega
  cases w1 : (s == wAt)
  rotate_left
  · have w1' : (s == [97, 116]) = true := w1
    simp [Try.f52, hpos, g16, hi0, clet, hl, cop, hr0, creg, hreg, w1', -beq_iff_eq]
  have w1' : (s == [97, 116]) = false := w1
  cases w2 : (s == wWord)
  rotate_left
  · have w2' : (s == [119, 111, 114, 100]) = true := w2
    simp [Try.f52, hpos, g16, hi0, clet, hl, cop, hr0, creg, hreg, w1', w2', -beq_iff_eq]
  have w2' : (s == [119, 111, 114, 100]) = false := w2
  cases w3 : (s == wByte)
  rotate_left
  · have w3' : (s == [98, 121, 116, 101]) = true := w3
    simp [Try.f52, hpos, g16, hi0, clet, hl, cop, hr0, creg, hreg, w1', w2', w3', -beq_iff_eq]
  have w3' : (s == [98, 121, 116, 101]) = false := w3
  cases w4 : (s == wText)
  rotate_left
  · have w4' : (s == [116, 101, 120, 116]) = true := w4
    simp [Try.f52, hpos, g16, hi0, clet, hl, cop, hr0, creg, hreg, w1', w2', w3', w4', -beq_iff_eq]
  have w4' : (s == [116, 101, 120, 116]) = false := w4
  rw [dreg]
  simp [Try.f52, hpos, g16, hi0, clet, hl, cop, hr0, creg, hreg, w1', w2', w3', w4', -beq_iff_eq, -beq_eq_false_iff_ne]
  rcases first_or_all (fun k => ∃ b, s[k]? = some b ∧ bOk b = false) s.length with ⟨m, h1, ⟨b, h2, h4⟩, h3⟩ | h
  · have hall : s.all bOk = false := by
      rw [List.all_eq_false]
      exact ⟨b, List.mem_of_getElem? h2, by simp [h4]⟩
    rw [loop_go (fun k => { env := envOf 62 [(0, .str s), (3, .int .i64 k)], defs := [], par := .none, S := S }) m (by omega)]
    · have hi := index_str h2
      unfold bOk at h4
      simp only [Bool.or_eq_false_iff] at h4
      simp [h1, hi, clet, cdig, h4.1, h4.2, hall]
    · simp
    · intro k hk
      obtain ⟨b', hb'⟩ : ∃ b', s[k]? = some b' := ⟨_, List.getElem?_eq_getElem (by omega)⟩
      have hkl : k < s.length := by omega
      have hok : bOk b' = true := by
        cases hb : bOk b' with
        | true => rfl
        | false => exact absurd ⟨b', hb', hb⟩ (h3 k hk)
      have hi := index_str hb'
      have w : IntKind.i64.wrap ((k : Int) + 1) = (k : Int) + 1 := wrap_succ hkl (by omega)
      unfold bOk at hok
      cases l1 : lowB b' <;> rw [l1] at hok
      · simp only [Bool.false_or] at hok
        simp [hkl, hi, clet, cdig, l1, hok, w]
      · simp [hkl, hi, clet, cdig, l1, w]
  · have hall : s.all bOk = true := by
      rw [List.all_eq_true]
      intro b hb
      obtain ⟨i, hi⟩ := List.mem_iff_getElem?.1 hb
      cases hbb : bOk b with
      | true => rfl
      | false => exact absurd ⟨b, hi, hbb⟩ (h i (List.getElem?_eq_some_iff.1 hi).1)
    rw [loop_go (fun k => { env := envOf 62 [(0, .str s), (3, .int .i64 k)], defs := [], par := .none, S := S }) s.length hN]
    · simp [hall]
    · simp
    · intro k hkl
      obtain ⟨b', hb'⟩ : ∃ b', s[k]? = some b' := ⟨_, List.getElem?_eq_getElem (by omega)⟩
      have hok : bOk b' = true := by
        cases hb : bOk b' with
        | true => rfl
        | false => exact absurd ⟨b', hb', hb⟩ (h k hkl)
      have hi := index_str hb'
      have w : IntKind.i64.wrap ((k : Int) + 1) = (k : Int) + 1 := wrap_succ hkl (by omega)
      unfold bOk at hok
      cases l1 : lowB b' <;> rw [l1] at hok
      · simp only [Bool.false_or] at hok
        simp [hkl, hi, clet, cdig, l1, hok, w]
      · simp [hkl, hi, clet, cdig, l1, w]
theorem refName_call {n : Nat} (s : List UInt8) (hs : s.length < 2 ^ 30) (hN : s.length < n + 2) (hn : 40 < n) : (handler Try.prog ppol (n + 3)).call (.func 52) [.str s] S = some (.ret (.bool (nameOk s)), S) := by
  rw [call_func (by rfl), refName_run s hs hN hn, refNm_eq]; rfl
end Go.Ab.Seat
/- The reference's Check is the program's. -/
namespace Go.Ab.Seat
open Go.Proofs
set_option maxRecDepth 100000
set_option maxHeartbeats 1000000
variable {H : Handler} {N : Nat} {S : Sto}
theorem refEnd_call {n : Nat} (a : Int) (o : Option (List UInt8)) (own : Bool) : (handler Try.prog ppol (n + 1)).call (.func 17) [.agg [.int .i64 a, sv own 1 byteRow o]] S = some (.ret (.int .i64 (IntKind.i64.wrap (a + (ol o).length))), S) := by
  rw [call_func (by rfl), runFn_eq Try.func17 (by rfl)]
  simp [Try.f17]
def chk (f : FileV) : Int := if rightOk f then 0 else 310
structure CkI (o : Option (List PartV)) where
  k : Nat
  x : Int
  hk : k ≤ (ol o).length
  hx : pBad 0 (ol o) = pBad x ((ol o).drop k)
def CkE (S : Sto) (f : FileV) (i : CkI f.parts) : St := { env := envOf 100 [(1, .box (fileC f)), (3, .int .i64 i.x), (4, .int .i64 i.k), (6, .undef)], defs := [], par := .none, S := S }
def CkT (S : Sto) (f : FileV) (r : AExit × St) : Prop :=
  r.2.defs = [] ∧ r.2.par = .none ∧ r.2.S = S ∧ ((r.1 = .exit 0 ∧ (∃ d : Int, r.2.env = envOf 100 [(18, .int .i64 (ol f.parts).length), (20, sv false 2 partRow f.parts), (21, .int .i64 (ol f.parts).length), (22, .bool false), (1, .box (fileC f)), (3, .int .i64 d), (4, .int .i64 (ol f.parts).length), (6, .undef)]) ∧ pBad 0 (ol f.parts) = false) ∨ (r.1 = .ret ∧ getT r.2.env 2 = .int .i64 310 ∧ pBad 0 (ol f.parts) = true))
structure CnI (l : List SymV) where
  k : Nat
  hk : k ≤ l.length
  hb : ∀ j, j < k → nmAt l j = true
def CnE (S : Sto) (f : FileV) (d : AV) (i : CnI (ol f.names)) : St := { env := envOf 100 [(1, .box (fileC f)), (3, d), (4, .int .i64 (ol f.parts).length), (6, .int .i64 i.k)], defs := [], par := .none, S := S }
def CnT (S : Sto) (l : List SymV) (r : AExit × St) : Prop :=
  r.2.defs = [] ∧ r.2.par = .none ∧ r.2.S = S ∧ ((r.1 = .exit 2 ∧ r.2.env.length = 100 ∧ namesOk l = true) ∨ (r.1 = .ret ∧ getT r.2.env 2 = .int .i64 310 ∧ namesOk l = false))
theorem refCheck_run {n : Nat} (f : FileV) (h : Small f n) (hN : 6400 < N) :
    runFn Try.prog (handler Try.prog ppol (n + 4)) N ppol 18 .none [.agg (fileC f)] S = some (.ret (.int .i64 (chk f)), .none, S) := by
  obtain ⟨h1, h2, h3, h4⟩ := h
  rw [runFn_eq Try.func18 (by rfl)]
  unfold chk rightOk sizesOk
  by_cases c1 : 64 < (ol f.parts).length
  · have g1 : (64 : Int) < (ol f.parts).length := by omega
    have d1 : decide ((ol f.parts).length ≤ 64) = false := by rw [decide_eq_false_iff_not]; omega
    simp [Try.f18, g1, d1]
  have g1 : ¬ (64 : Int) < (ol f.parts).length := by omega
  have d1 : decide ((ol f.parts).length ≤ 64) = true := by rw [decide_eq_true_iff]; omega
  by_cases c2 : 64 < (ol f.names).length
  · have g2 : (64 : Int) < (ol f.names).length := by omega
    have d2 : decide ((ol f.names).length ≤ 64) = false := by rw [decide_eq_false_iff_not]; omega
    simp [Try.f18, g1, d1, g2, d2]
  have g2 : ¬ (64 : Int) < (ol f.names).length := by omega
  have d2 : decide ((ol f.names).length ≤ 64) = true := by rw [decide_eq_true_iff]; omega
  rw [d1, d2]
  simp [Try.f18, g1, g2]
  generalize hL : loopN _ _ _ _ = L
  obtain ⟨x, st', rfl, hT⟩ := loop_fam' hL (CkE S f) (fun _ => CkT S f) (fun i => (ol f.parts).length - i.k) ⟨0, 0, by omega, by simp⟩ (by show _ - 0 < N; omega) (by simp [CkE]) (fun i => by
    obtain ⟨k, x, hk, hx⟩ := i
    clear hL
    by_cases hkl : k < (ol f.parts).length
    · obtain ⟨p, hp⟩ : ∃ p, (ol f.parts)[k]? = some p := ⟨_, List.getElem?_eq_getElem hkl⟩
      have hdr : (ol f.parts).drop k = p :: (ol f.parts).drop (k + 1) := by
        rw [List.drop_eq_getElem_cons hkl, (List.getElem?_eq_some_iff.1 hp).2]
      rw [hdr] at hx
      have hend : IntKind.i64.wrap (p.at' + (ol p.bytes).length) = endI p := rfl
      have w : IntKind.i64.wrap ((k : Int) + 1) = (k : Int) + 1 := wrap_succ hkl (by omega)
      have hbd : badP x p = (decide ((ol p.bytes).length = 0) || decide (2048 < (ol p.bytes).length) || decide (p.at' < x) || decide (2048 ≤ p.at') || decide (2048 < endI p)) := rfl
      have cend := fun own => refEnd_call (n := n + 3) (S := S) p.at' p.bytes own
      rw [hend] at cend
      have bad : badP x p = true → pBad 0 (ol f.parts) = true := fun hb => by rw [hx]; simp [pBad, hb]
      by_cases q1 : (ol p.bytes).length = 0
      · have e1 : ((ol p.bytes).length : Int) < 1 := by omega
        have hb := bad (by rw [hbd, q1]; rfl)
        simp [CkE, hkl, index_sv Try.underlying22 tycells45 _ hp, writeCells, e1, CkT, hb]
      have e1 : ¬ ((ol p.bytes).length : Int) < 1 := by omega
      by_cases q2 : 2048 < (ol p.bytes).length
      · have e2 : (2048 : Int) < (ol p.bytes).length := by omega
        have hb := bad (by rw [hbd]; simp [q2])
        simp [CkE, hkl, index_sv Try.underlying22 tycells45 _ hp, writeCells, e1, e2, CkT, hb]
      have e2 : ¬ (2048 : Int) < (ol p.bytes).length := by omega
      by_cases q3 : p.at' < x
      · have hb := bad (by rw [hbd]; simp [q3])
        simp [CkE, hkl, index_sv Try.underlying22 tycells45 _ hp, writeCells, e1, e2, q3, CkT, hb]
      by_cases q4 : 2048 ≤ p.at'
      · have e4 : (2047 : Int) < p.at' := by omega
        have hb := bad (by rw [hbd]; simp [q4])
        simp [CkE, hkl, index_sv Try.underlying22 tycells45 _ hp, writeCells, e1, e2, q3, e4, CkT, hb]
      have e4 : ¬ (2047 : Int) < p.at' := by omega
      by_cases q5 : 2048 < endI p
      · have hb := bad (by rw [hbd]; simp [q5])
        simp [CkE, hkl, index_sv Try.underlying22 tycells45 _ hp, writeCells, e1, e2, q3, e4, partRow, cend, q5, CkT, hb]
      · have hok : badP x p = false := by rw [hbd]; simp [q1, q2, q3, q4, q5]
        simp [CkE, hkl, index_sv Try.underlying22 tycells45 _ hp, writeCells, e1, e2, q3, e4, partRow, cend, q5, w]
        refine ⟨⟨k + 1, endI p, hkl, ?_⟩, ?_, ⟨rfl, rfl⟩⟩
        · rw [hx]; simp [pBad, hok]
        · show _ - (k + 1) < _ - k; omega
    · have hkn : k = (ol f.parts).length := by omega
      subst hkn
      have hb : pBad 0 (ol f.parts) = false := by rw [hx, List.drop_length]; rfl
      simp [CkE, CkT, hb])
  clear hL
  obtain ⟨env', defs', par', S'⟩ := st'
  obtain ⟨t1, t2, t3, ⟨rfl, ⟨d, t4⟩, t5⟩ | ⟨rfl, t4, t5⟩⟩ := hT
  rotate_left
  · simp only at t1 t2 t3 t4
    subst t1 t2 t3
    simp [t4, t5]
  simp only at t1 t2 t3 t4
  subst t1 t2 t3 t4
  rw [t5]
  simp
  generalize hL : loopN _ _ _ _ = L
  obtain ⟨x, st', rfl, hT⟩ := loop_fam' hL (CnE S' f (.int .i64 d)) (fun _ => CnT S' (ol f.names)) (fun i => (ol f.names).length - i.k) ⟨0, by omega, fun j hj => by omega⟩ (by show _ - 0 < N; omega) (by simp [CnE]) (fun i => by
    obtain ⟨k, hk, hb⟩ := i
    clear hL
    by_cases hkl : k < (ol f.names).length
    · obtain ⟨s, hks⟩ : ∃ s, (ol f.names)[k]? = some s := ⟨_, List.getElem?_eq_getElem hkl⟩
      have hc := refName_call (n := n + 1) (S := S') s.name (by have := h3 s (List.mem_of_getElem? hks); omega) (by have := h3 s (List.mem_of_getElem? hks); omega) (by omega)
      have g7 : IntKind.i64.wrap ((k : Int) + 1) = (k : Int) + 1 := wrap_succ hkl (by omega)
      have hnm : nmAt (ol f.names) k = (nameOk s.name && decide (0 ≤ s.at') && decide (s.at' ≤ 2048) && (decide (k = 0) || match (ol f.names)[k - 1]? with | some q => Op.bytesLess q.name s.name | none => true)) := by
        unfold nmAt; rw [hks]; rfl
      cases hok : nameOk s.name
      · have hfl := nm_not hkl (by rw [hnm, hok]; rfl)
        rw [hok] at hc
        simp [CnE, hkl, index_sv Try.underlying23 tycells64 _ hks, writeCells]
        rw [evDraw_go]
        · simp [hc, CnT, hfl]
        · kernel_rfl
      · rw [hok] at hc hnm
        by_cases c1 : s.at' < 0
        · have d1 : decide (0 ≤ s.at') = false := by rw [decide_eq_false_iff_not]; omega
          have hfl := nm_not hkl (by rw [hnm, d1]; rfl)
          simp [CnE, hkl, index_sv Try.underlying23 tycells64 _ hks, writeCells]
          rw [evDraw_go]
          · simp [hc, CnT, hfl, c1]
          · kernel_rfl
        · have d1 : decide (0 ≤ s.at') = true := by rw [decide_eq_true_iff]; omega
          by_cases c2 : 2048 < s.at'
          · have d2 : decide (s.at' ≤ 2048) = false := by rw [decide_eq_false_iff_not]; omega
            have hfl := nm_not hkl (by rw [hnm, d1, d2]; rfl)
            simp [CnE, hkl, index_sv Try.underlying23 tycells64 _ hks, writeCells]
            rw [evDraw_go]
            · simp [hc, CnT, hfl, c1, c2]
            · kernel_rfl
          · have d2 : decide (s.at' ≤ 2048) = true := by rw [decide_eq_true_iff]; omega
            rw [d1, d2] at hnm
            by_cases c3 : k = 0
            · subst c3
              have hi0 := index_sv (own := false) (g := symRow) Try.underlying23 tycells64 .i64 hks
              rw [show ((0 : Nat) : Int) = 0 from rfl] at hi0 g7
              simp [CnE, hkl, hi0, writeCells]
              rw [evDraw_go]
              · simp [hc, c1, c2]
                refine ⟨⟨1, hkl, fun j hj => ?_⟩, ?_, ?_⟩
                · have : j = 0 := by omega
                  rw [this, hnm]; rfl
                · show _ - 1 < _ - 0; omega
                · simp [CnE]; exact Go.IntWalk.i64_in _ (by omega)
              · kernel_rfl
            · have c3' : 0 < k := by omega
              obtain ⟨q, hkq⟩ : ∃ q, (ol f.names)[k - 1]? = some q := ⟨_, List.getElem?_eq_getElem (by omega)⟩
              have g8 : IntKind.i64.wrap ((k : Int) - 1) = ((k - 1 : Nat) : Int) := by
                rw [show (k : Int) - 1 = ((k - 1 : Nat) : Int) by omega]; exact Go.IntWalk.i64_in _ (by omega)
              rw [hkq] at hnm
              cases hless : Op.bytesLess q.name s.name
              · have hfl := nm_not hkl (by rw [hnm]; simp [c3, hless])
                simp [CnE, hkl, index_sv Try.underlying23 tycells64 _ hks, writeCells]
                rw [evDraw_go]
                · simp [hc, c1, c2, c3', g8, index_sv Try.underlying23 tycells64 _ hkq, hless, CnT, hfl]
                · kernel_rfl
              · simp [CnE, hkl, index_sv Try.underlying23 tycells64 _ hks, writeCells]
                rw [evDraw_go]
                · simp [hc, c1, c2, c3', g8, index_sv Try.underlying23 tycells64 _ hkq, hless]
                  refine ⟨⟨k + 1, hkl, fun j hj => ?_⟩, ?_, ?_⟩
                  · by_cases e : j = k
                    · rw [e, hnm]; simp [hless]
                    · exact hb j (by omega)
                  · show _ - (k + 1) < _ - k; omega
                  · simp [CnE, g7]
                · kernel_rfl
    · have hkn : k = (ol f.names).length := by omega
      have hall := nm_all (l := ol f.names) (fun j hj => hb j (by omega))
      simp [CnE, hkl, CnT, hall])
  clear hL
  obtain ⟨env', defs', par', S''⟩ := st'
  obtain ⟨t1, t2, t3, ⟨rfl, t4, t6⟩ | ⟨rfl, t4, t6⟩⟩ := hT
  · simp only at t1 t2 t3 t4
    subst t1 t2 t3
    simp [t6, getT_setT_self, t4]
  · simp only at t1 t2 t3 t4
    subst t1 t2 t3
    simp [t4, t6]
theorem refCheck_callN (f : FileV) (h : Small f 6500) (hN : 6600 < N) : (handler Try.prog ppol N).call (.func 18) [.agg (fileC f)] S = some (.ret (.int .i64 (chk f)), S) := by
  obtain ⟨n, rfl⟩ : ∃ n, N = n + 5 := ⟨N - 5, by omega⟩
  rw [call_func (by rfl), refCheck_run (n := n) (N := n + 4) (S := S) f (h.up (by omega)) (by omega)]; rfl
end Go.Ab.Seat
/- The law ImageParts. -/
namespace Go.Ab
variable {P : Program} {H : Handler} {pol : Pol} {f : FuncId} {N : Nat}
theorem fold_max (k : IntKind) (a b : Int) : foldA max2 [.int k a, .int k b] = some (.int k (max a b)) := by
  by_cases h : a ≤ b
  · by_cases h' : b ≤ a
    · have : a = b := by omega
      subst this
      simp [foldA, foldB, max2]
    · have e : max a b = b := by omega
      simp [foldA, foldB, max2, h', e]; try omega
  · have h' : b ≤ a := by omega
    have e : max a b = a := by omega
    simp [foldA, foldB, max2, h', e]; try omega
theorem fold_min (k : IntKind) (a b : Int) : foldA min2 [.int k a, .int k b] = some (.int k (min a b)) := by
  by_cases h : a ≤ b
  · have e : min a b = a := by omega
    simp [foldA, foldB, min2, h, e]; try omega
  · have e : min a b = b := by omega
    simp [foldA, foldB, min2, h, e]; try omega
def collD (d : Nat) : ADef := ⟨.coll d, []⟩
/-- Deferred calls' places that are no other's. -/
theorem unwind_colls {res : Nat} : ∀ (ds : List Nat) (S : Sto), ds.Nodup → (∀ d ∈ ds, S.get d = some .deferred ∧ d ≠ res) → ∃ S', unwindA H (ds.map collD) .returning S = some (.returning, S') ∧ S'.get res = S.get res
  | [], S, _, _ => ⟨S, rfl, rfl⟩
  | d :: ds, S, hn, h => by
    obtain ⟨h1, h2⟩ := List.nodup_cons.1 hn
    obtain ⟨h3, h4⟩ := h d (by simp)
    obtain ⟨S', e1, e2⟩ := unwind_colls (res := res) ds (S.drop d) h2 (fun x hx => by
      have hne : x ≠ d := fun e => h1 (e ▸ hx)
      obtain ⟨h5, h6⟩ := h x (by simp [hx])
      exact ⟨by rw [get_drop_ne hne]; exact h5, h6⟩)
    refine ⟨S', ?_, by rw [e2, get_drop_ne (Ne.symm h4)]⟩
    rw [List.map_cons, collD, unwind_coll, h3, deferredK_some]
    exact e1
end Go.Ab
namespace Go.Ab.Seat
open Go.Proofs
set_option maxRecDepth 100000
set_option maxHeartbeats 1000000
variable {H : Handler} {N : Nat} {S : Sto}
theorem parts_callN (f : FileV) (h : Small f 6500) (hN : 6600 < N) (hk : SOK S) :
    ∃ v S', (handler Try.prog ppol N).call (.func 19) [.agg (fileC f)] S = some (.ret (.fn (.func 53) [] [.ptr S.next 0]), S') ∧ Grew [] S S' ∧ S'.get S.next = some (.cells [v]) ∧ S.next < S'.next ∧ SlV S' 2 partRow (S.next + 1) (okParts f) v := by
  obtain ⟨n, rfl⟩ : ∃ n, N = n + 8 := ⟨N - 8, by omega⟩
  exact parts_call f (h.up (by omega)) hk
theorem conv_sv (o : Bool) (b : Option (List UInt8)) : convA Try.prog 28 9 (sv o 1 byteRow b) = some (.str (ol b)) := by
  cases b with
  | none => simp [sv, convA, ol]
  | some l => exact conv_str o l
theorem fnNil (c : Nat) : binA Try.prog .eql 49 true (.fn (.func 53) [] [.ptr c 0]) .nilfn = some (.bool false) := by kernel_rfl
/-- How it stands ahead of a turn. -/
structure PtI (many : Int) (o : Option (List PartV)) (v : AV) (mi ri wi c lo : Nat) where
  k : Nat
  S1 : Sto
  ds : List Nat
  tid : Nat
  x8 : AV
  hk : k ≤ 2
  sok : SOK S1
  hm : S1.get mi = some (.cells [.int .i64 many])
  hr : S1.get ri = some (.cells [.bool false])
  hw : S1.get wi = some (.cells [sv false 2 partRow o])
  hc : S1.get c = some (.cells [v])
  ht : S1.get tid = some (.cells [.int .i64 k])
  hv : SlV S1 2 partRow lo o v
  nd : ds.Nodup
  hd : ∀ d ∈ ds, S1.get d = some .deferred ∧ d ≠ ri ∧ d < S1.next
  ids : mi < S1.next ∧ ri < S1.next ∧ wi < S1.next ∧ c < S1.next ∧ tid < S1.next
def PtE (many : Int) (o : Option (List PartV)) (v : AV) (mi ri wi c lo : Nat) (i : PtI many o v mi ri wi c lo) : St :=
  { env := envOf 87 [(3, .ptr mi 0), (4, .ptr ri 0), (5, .ptr wi 0), (6, .fn (.func 53) [] [.ptr c 0]), (7, .ptr i.tid 0), (8, i.x8)], defs := i.ds.map collD, par := .none, S := i.S1 }
def PtT (mi ri wi c : Nat) (r : AExit × St) : Prop := ∃ (S1 : Sto) (ds : List Nat) (tid : Nat) (x8 : AV), r = (.exit 0, { env := envOf 87 [(24, .int .i64 2), (25, .bool false), (3, .ptr mi 0), (4, .ptr ri 0), (5, .ptr wi 0), (6, .fn (.func 53) [] [.ptr c 0]), (7, .ptr tid 0), (8, x8)], defs := ds.map collD, par := .none, S := S1 }) ∧
  S1.get ri = some (.cells [.bool false]) ∧ ds.Nodup ∧ ∀ d ∈ ds, S1.get d = some .deferred ∧ d ≠ ri
/-- Where the parts are gone over: so many are seen. -/
structure PgInv (many : Int) (len k : Nat) (Sy : Sto) (n8 y : Nat) (r : ALoop) (j : Nat) (S' : Sto) : Prop where
  g : Grew [n8, y] Sy S'
  n : S'.get n8 = some (.cells [.int .i64 j])
  y : S'.get y = some (.loop r)
  go : k = 0 → j = 0 ∨ (j : Int) < many
structure PgStop (many : Int) (len k : Nat) (Sy : Sto) (n8 y : Nat) (r : ALoop) (S' : Sto) : Prop where
  g : Grew [n8, y] Sy S'
  n : ∃ j : Nat, S'.get n8 = some (.cells [.int .i64 j]) ∧ j ≤ len ∧ (j : Int) = max 1 many
  y : S'.get y = some (.loop { r with state := .done, pending := some (.exit 2) })
  k0 : k = 0
theorem partsLaw_run (f : FileV) (many : Int) (hm : 2 ^ 20 + 200 < N) (hk : SOK S) :
    ∃ S', runFn Try.prog (handler Try.prog ppol N) N ppol 5 .none [.agg (fileC f), .int .i64 many] S = some (.ret (.bool true), .none, S') := by
  have cw := fun S => works_call (N := N) (S := S) (by omega)
  rw [runFn_eq Try.func5 (by rfl)]
  cases hfew : fewOf f
  · have cf := few_call (N := N) (S := (S.new (.cells [.int .i64 many])).new (.cells [.bool false])) f (by omega)
    rw [hfew] at cf
    simp [Try.f5, cf, cw, writeCells, takeCells_eq, isAggV]
  have hsm := few_small (n := 6500) hfew (by omega)
  have cf := few_call (N := N) (S := (S.new (.cells [.int .i64 many])).new (.cells [.bool false])) f (by omega)
  rw [hfew] at cf
  obtain ⟨S3, hS3⟩ : ∃ S3, ((S.new (.cells [.int .i64 many])).new (.cells [.bool false])).new (.cells [.nilsl]) = S3 := ⟨_, rfl⟩
  have hg3 : Grew [] S S3 := by rw [← hS3]; exact ((Grew.new _ _ _ (by simp)).trans (Grew.new _ _ _ (by simp))).trans (Grew.new _ _ _ (by simp))
  have ccr := refCheck_callN (N := N) (S := S3) f hsm (by omega)
  obtain ⟨S4, hS4⟩ : ∃ S4, ((S.new (.cells [.int .i64 many])).new (.cells [.bool false])).new (.cells [sv false 2 partRow (okParts f)]) = S4 := ⟨_, rfl⟩
  have hg4 : Grew [] S S4 := by rw [← hS4]; exact ((Grew.new _ _ _ (by simp)).trans (Grew.new _ _ _ (by simp))).trans (Grew.new _ _ _ (by simp [same_sv false 2 goodPart]))
  have hn4 : S4.next = S.next + 3 := by rw [← hS4]; rfl
  have m4 : S4.get S.next = some (.cells [.int .i64 many]) := by
    rw [← hS4, get_new_ne (by simp only [next_new]; omega), get_new_ne (by simp only [next_new]; omega)]; exact get_new_self _ _
  have r4 : S4.get (S.next + 1) = some (.cells [.bool false]) := by
    rw [← hS4, get_new_ne (by simp only [next_new]; omega)]; exact get_new_self _ _
  have w4 : S4.get (S.next + 1 + 1) = some (.cells [sv false 2 partRow (okParts f)]) := by rw [← hS4]; exact get_new_self _ _
  have w3 : S3.get (S.next + 1 + 1) = some (.cells [.nilsl]) := by rw [← hS3]; exact get_new_self _ _
  obtain ⟨v, S5, cp, hg5, hc5, hlt5, hv5⟩ := parts_callN (N := N) (S := S4) f hsm (by omega) (hg4.sok hk)
  rw [hn4] at cp hc5 hlt5 hv5
  have hwant : (chk f = 0 ∧ okParts f = f.parts) ∨ (chk f = 310 ∧ okParts f = none) := by
    unfold chk okParts
    cases rightOk f
    · exact .inr ⟨rfl, rfl⟩
    · exact .inl ⟨rfl, rfl⟩
  have e3 : S3.put (S.next + 1 + 1) (.cells [sv false 2 partRow (okParts f)]) = S4 := by rw [← hS3, ← hS4]; exact put_new_eq rfl
  have hk5 : SOK S5 := hg5.sok (hg4.sok hk)
  have m5 := (hg5.get S.next (by omega) (by simp)).trans m4
  have r5 := (hg5.get (S.next + 1) (by omega) (by simp)).trans r4
  have w5 := (hg5.get (S.next + 1 + 1) (by omega) (by simp)).trans w4
  generalize ho : okParts f = o at *
  have hlo : (ol o).length ≤ 6000 := by
    rcases hwant with ⟨-, h⟩ | ⟨-, h⟩
    · rw [h]; exact hsm.parts
    · rw [h]; simp [ol]
  have hob : ∀ p ∈ ol o, (ol p.bytes).length < 2 ^ 40 := by
    intro p hp
    rw [← ho] at hp
    unfold okParts at hp
    cases hok : rightOk f <;> rw [hok] at hp
    · simp [ol] at hp
    · have := pBad_each (rightOk_parts hok) p hp; omega
  rcases hwant with ⟨hw1, hw2⟩ | ⟨hw1, hw2⟩
  rw [hw1] at ccr
  rw [hw2] at e3
  simp [Try.f5, cf, hS3, ccr, w3, e3, writeCells, cp, fnNil]
  rotate_left
  rw [hw1] at ccr
  have e4 : S3 = S4 := by rw [← hS3, ← hS4, hw2]; rfl
  rw [e4] at hS3 ccr
  simp [Try.f5, cf, hS3, ccr, cp, writeCells, fnNil]
  all_goals
    clear hw1 hw2 ccr e3 hS3 cf cp ho
    generalize hL : loopN _ _ _ _ = L
    have hkn : SOK (S5.new (.cells [.int .i64 0])) := hk5.new (by simp)
    obtain ⟨x, st', rfl, hT⟩ := loop_fam' hL (PtE many o v S.next (S.next + 1) (S.next + 1 + 1) (S.next + 3) (S.next + 3 + 1)) (fun _ => PtT S.next (S.next + 1) (S.next + 1 + 1) (S.next + 3)) (fun i => 2 - i.k)
      ⟨0, S5.new (.cells [.int .i64 0]), [], S5.next, .undef, by omega, hkn, by rw [get_new_ne (by omega)]; exact m5, by rw [get_new_ne (by omega)]; exact r5, by rw [get_new_ne (by omega)]; exact w5, by rw [get_new_ne (by omega)]; exact hc5, get_new_self _ _, hv5.mono (Grew.new [] _ _ (by simp)) (by simp), List.nodup_nil, by simp, by simp only [next_new]; omega⟩
      (by show 2 - 0 < N; omega) (by simp [PtE]) (fun i => by
      obtain ⟨k, S1, ds, tid, x8, hk, sok, hm', hr', hw', hc', ht', hv', nd, hd, ids⟩ := i
      clear hL
      obtain ⟨i1, i2, i3, i4, i5⟩ := ids
      by_cases hk2 : k < 2
      · have g2 : (k : Int) < 2 := by omega
        simp [PtE, ht', g2, writeCells]
        generalize hrr : loopOf _ _ _ _ _ _ _ = r
        have hra := congrArg ALoop.assign hrr
        have hrb := congrArg ALoop.body hrr
        have hre := congrArg ALoop.env hrr
        have hrf := congrArg ALoop.fn hrr
        have hrp := congrArg ALoop.params hrr
        have hrs := congrArg ALoop.state hrr
        have hrn := congrArg ALoop.pending hrr
        simp [loopOf] at hra hrb hre hrf hrp hrs hrn
        clear hrr
        obtain ⟨n8, hn8⟩ : ∃ n8, S1.next = n8 := ⟨_, rfl⟩
        obtain ⟨y, hyid⟩ : ∃ y, n8 + 1 + 1 = y := ⟨_, rfl⟩
        rw [hn8] at hre i1 i2 i3 i4 i5
        obtain ⟨Sy, hSy⟩ : ∃ Sy, ((S1.new (.cells [.int .i64 0])).new .deferred).new (.loop r) = Sy := ⟨_, rfl⟩
        have gy : Grew [] S1 Sy := by rw [← hSy]; exact ((Grew.new _ _ _ (by simp)).trans (Grew.new _ _ _ rfl)).trans (Grew.new _ _ _ rfl)
        have ny : Sy.next = n8 + 3 := by rw [← hSy, ← hn8]; rfl
        have yn8 : Sy.get n8 = some (.cells [.int .i64 0]) := by
          rw [← hSy, ← hn8, get_new_ne (by simp only [next_new]; omega), get_new_ne (by simp only [next_new]; omega)]; exact get_new_self _ _
        have yd : Sy.get (n8 + 1) = some .deferred := by
          rw [← hSy, ← hn8, get_new_ne (by simp only [next_new]; omega)]; exact get_new_self _ _
        have yy : Sy.get y = some (.loop r) := by rw [← hSy, ← hyid, ← hn8]; exact get_new_self _ _
        have ym := (gy.get S.next (by omega) (by simp)).trans hm'
        have yr := (gy.get (S.next + 1) (by omega) (by simp)).trans hr'
        have yw := (gy.get (S.next + 1 + 1) (by omega) (by simp)).trans hw'
        have yc := (gy.get (S.next + 3) (by omega) (by simp)).trans hc'
        have yt := (gy.get tid (by omega) (by simp)).trans ht'
        have ysok := gy.sok sok
        have hrr2 : ({ state := .ready, pending := none, fn := r.fn, env := r.env, params := r.params, assign := r.assign, body := r.body, defers := r.defers } : ALoop) = r := by
          obtain ⟨x1, x2, x3, x4, x5, x6, x7, x8⟩ := r
          simp only at hrs hrn
          subst hrs hrn
          rfl
        obtain ⟨M, hM⟩ : ∃ M, N = M + 1 + 1 := ⟨N - 2, by omega⟩
        obtain ⟨S7, e7, hI7⟩ := partsGo_run (n := M) (N := M + 1) (S := Sy) (y := y) (lo := S.next + 3 + 1) (PgInv many (ol o).length k Sy n8 y r) (PgStop many (ol o).length k Sy n8 y r) yc (by omega) (by omega) hob
          ⟨Grew.refl _ _, yn8, yy, fun _ => .inl rfl⟩
          (fun j S' hI => ⟨hI.g.sok ysok, hv'.mono ((gy.mono' (by simp)).trans hI.g) (fun b hb => by simp only [List.mem_cons, List.not_mem_nil, or_false] at hb; omega)⟩)
          (fun j p S' hI hp => by
            have hjl := (List.getElem?_eq_some_iff.1 hp).1
            obtain ⟨Sb, hSb⟩ : ∃ Sb, S'.put y (.loop { r with state := .busy }) = Sb := ⟨_, rfl⟩
            have old : ∀ id, id < n8 → Sb.get id = Sy.get id := fun id hid => by
              rw [← hSb, get_put_ne (by omega), hI.g.get id (by omega) (by simp; omega)]
            have bn : Sb.get n8 = some (.cells [.int .i64 j]) := by rw [← hSb, get_put_ne (by omega)]; exact hI.n
            have by' : Sb.get y = some (.loop { r with state := .busy }) := by rw [← hSb]; exact get_put_self hI.y
            have bm := (old S.next (by omega)).trans ym
            have br := (old (S.next + 1) (by omega)).trans yr
            have bw := (old (S.next + 1 + 1) (by omega)).trans yw
            have bt := (old tid (by omega)).trans yt
            have hix := index_sv (own := false) (g := partRow) Try.underlying22 tycells45 .i64 hp
            have w1 : IntKind.i64.wrap ((j : Int) + 1) = (j : Int) + 1 := wrap_succ hjl (by omega)
            have gj : ¬ ((ol o).length : Int) ≤ j := by omega
            have gd1 : Grew [n8, y] S' Sb := by rw [← hSb]; exact Grew.put _ _ (.inl (by simp)) rfl
            have gd2 : Grew [n8, y] Sb (Sb.put n8 (.cells [.int .i64 ((j : Int) + 1)])) := Grew.put _ _ (.inl (by simp)) (by simp)
            have bn2 : (Sb.put n8 (.cells [.int .i64 ((j : Int) + 1)])).get n8 = some (.cells [.int .i64 ((j : Int) + 1)]) := get_put_self bn
            have by2 : (Sb.put n8 (.cells [.int .i64 ((j : Int) + 1)])).get y = some (.loop { r with state := .busy }) := by rw [get_put_ne (by omega)]; exact by'
            have bm2 : (Sb.put n8 (.cells [.int .i64 ((j : Int) + 1)])).get S.next = some (.cells [.int .i64 many]) := by rw [get_put_ne (by omega)]; exact bm
            have bt2 : (Sb.put n8 (.cells [.int .i64 ((j : Int) + 1)])).get tid = some (.cells [.int .i64 k]) := by rw [get_put_ne (by omega)]; exact bt
            by_cases hstop : k = 0 ∧ many ≤ (j : Int) + 1
            · obtain ⟨k0, hst⟩ := hstop
              have ek : ((k : Int) == 0) = true := by rw [beq_iff_eq]; omega
              obtain ⟨rd, hrd⟩ : ∃ rd : ALoop, { r with state := .done, pending := some (.exit 2) } = rd := ⟨_, rfl⟩
              refine ⟨false, (Sb.put n8 (.cells [.int .i64 ((j : Int) + 1)])).put y (.loop rd), ?_, (fun h => by cases h), fun _ => ?_⟩
              · rw [call_yield, yield_eq hI.y (by rw [← hrp]; rfl) (by rw [← hrf]; rfl)]
                rw [← hra, ← hre, ← hrf, ← hrp]
                simp
                rw [yBody_normal hI.y hrs.symm, hSb, ← hrb, ← hrf]
                simp
                rw [evDraw_go]
                · simp [bn, bw, gj, hix, conv_sv, writeCells, w1, bn2, bm2, bt2, ek, hst]
                  rw [yFin_exit (r := { r with state := .busy }) by2]
                  rw [← hrd]
                · kernel_rfl
              · refine ⟨((hI.g.trans gd1).trans gd2).trans (Grew.put _ _ (.inl (by simp)) rfl), ⟨j + 1, ?_, hjl, ?_⟩, by rw [hrd]; exact get_put_self by2, k0⟩
                · rw [get_put_ne (by omega)]; exact bn2
                · have := hI.go k0
                  omega
            · refine ⟨true, (Sb.put n8 (.cells [.int .i64 ((j : Int) + 1)])).put y (.loop r), ?_, fun _ => ?_, (fun h => by cases h)⟩
              · rw [call_yield, yield_eq hI.y (by rw [← hrp]; rfl) (by rw [← hrf]; rfl)]
                rw [← hra, ← hre, ← hrf, ← hrp]
                simp
                rw [yBody_normal hI.y hrs.symm, hSb, ← hrb, ← hrf]
                simp
                rw [evDraw_go]
                · by_cases k0 : k = 0
                  · have ek : ((k : Int) == 0) = true := by rw [beq_iff_eq]; omega
                    have hst : ¬ many ≤ (j : Int) + 1 := fun h => hstop ⟨k0, h⟩
                    simp [bn, bw, gj, hix, conv_sv, writeCells, w1, bn2, bm2, bt2, ek, hst]
                    rw [yFin_normal (r := { r with state := .busy }) by2]
                    simp [hrr2]
                  · have ek : ((k : Int) == 0) = false := by rw [beq_eq_false_iff_ne]; omega
                    simp [bn, bw, gj, hix, conv_sv, writeCells, w1, bn2, bm2, bt2, ek]
                    rw [yFin_normal (r := { r with state := .busy }) by2]
                    simp [hrr2]
                · kernel_rfl
              · refine ⟨((hI.g.trans gd1).trans gd2).trans (Grew.put _ _ (.inl (by simp)) rfl), ?_, get_put_self by2, fun k0 => .inr ?_⟩
                · rw [get_put_ne (by omega)]; exact bn2
                · have : ¬ many ≤ (j : Int) + 1 := fun h => hstop ⟨k0, h⟩
                  omega)
        have hcall : (handler Try.prog ppol N).call (.func 53) [.yld y, .ptr (S.next + 3) 0] Sy = some (.ret .undef, S7) := by
          rw [hM, call_func (by rfl), e7]; rfl
        have hfin : ∃ jn : Nat, S7.get n8 = some (.cells [.int .i64 jn]) ∧ Grew [n8, y] Sy S7 ∧ (k = 0 → (jn : Int) = min ((ol o).length : Int) (max 1 many)) ∧ (k ≠ 0 → jn = (ol o).length) ∧
            ∀ st defs, blkK 2 (rgEnd y st defs (some (.ret .undef, S7))) = some (.normal, { st with S := S7.drop y, defs := defs }) := by
          rcases hI7 with hI | hI
          · refine ⟨(ol o).length, hI.n, hI.g, fun k0 => ?_, fun _ => rfl, fun st defs => ?_⟩
            · have := hI.go k0
              omega
            · rw [rgEnd_ret hI.y hrs.symm hrn.symm]; rfl
          · obtain ⟨jn, q1, q2, q3⟩ := hI.n
            refine ⟨jn, q1, hI.g, fun _ => by omega, fun h => absurd hI.k0 h, fun st defs => ?_⟩
            rw [rgEnd_exit hI.y rfl rfl]; rfl
        obtain ⟨jn, q1, q2, q3, q4, q5⟩ := hfin
        obtain ⟨S8, hS8⟩ : ∃ S8, S7.drop y = S8 := ⟨_, rfl⟩
        have g8 : Grew [n8, y] Sy S8 := by rw [← hS8]; exact q2.trans (Grew.drop _ (.inl (by simp)))
        have n8' := g8.next
        have old8 : ∀ id, id < S1.next → S8.get id = S1.get id := fun id hid => (g8.get id (by omega) (by simp; omega)).trans (gy.get id (by omega) (by simp))
        have s8n : S8.get n8 = some (.cells [.int .i64 jn]) := by rw [← hS8, get_drop_ne (by omega)]; exact q1
        have s8d : S8.get (n8 + 1) = some .deferred := (g8.get (n8 + 1) (by omega) (by simp; omega)).trans yd
        have s8m := (old8 S.next (by omega)).trans hm'
        have s8r := (old8 (S.next + 1) (by omega)).trans hr'
        have s8w := (old8 (S.next + 1 + 1) (by omega)).trans hw'
        have s8c := (old8 (S.next + 3) (by omega)).trans hc'
        have s8t := (old8 tid (by omega)).trans ht'
        have s8k : SOK S8 := g8.sok ysok
        have s8v : SlV S8 2 partRow (S.next + 3 + 1) o v := hv'.mono ((gy.mono' (by simp)).trans g8) (fun b hb => by simp only [List.mem_cons, List.not_mem_nil, or_false] at hb; omega)
        have w1 : IntKind.i64.wrap ((k : Int) + 1) = ((k + 1 : Nat) : Int) := by
          rw [show (k : Int) + 1 = ((k + 1 : Nat) : Int) by omega]; exact Go.IntWalk.i64_in _ (by omega)
        obtain ⟨S9, hS9⟩ : ∃ S9, S8.new (.cells [.int .i64 ((k + 1 : Nat) : Int)]) = S9 := ⟨_, rfl⟩
        have g9 : Grew [] S8 S9 := by rw [← hS9]; exact Grew.new _ _ _ (by simp)
        have n9 : S9.next = S8.next + 1 := by rw [← hS9]; rfl
        have t9 : S9.get S8.next = some (.cells [.int .i64 ((k + 1 : Nat) : Int)]) := by rw [← hS9]; exact get_new_self _ _
        have old9 : ∀ id, id < S8.next → S9.get id = S8.get id := fun id hid => g9.get id hid (by simp)
        have hnext : ∃ i : PtI many o v S.next (S.next + 1) (S.next + 1 + 1) (S.next + 3) (S.next + 3 + 1), i.k = k + 1 ∧ i.S1 = S9 ∧ i.ds = (n8 + 1) :: ds ∧ i.tid = S8.next ∧ i.x8 = .ptr n8 0 := ⟨⟨k + 1, S9, (n8 + 1) :: ds, S8.next, .ptr n8 0, by omega, g9.sok s8k, (old9 _ (by omega)).trans s8m, (old9 _ (by omega)).trans s8r, (old9 _ (by omega)).trans s8w, (old9 _ (by omega)).trans s8c, t9, s8v.mono g9 (by simp),
          List.nodup_cons.2 ⟨fun hmem => by have := (hd _ hmem).2.2; omega, nd⟩, fun d hd' => by
            rcases List.mem_cons.1 hd' with rfl | hd'
            · exact ⟨(old9 _ (by omega)).trans s8d, by omega, by omega⟩
            · obtain ⟨z1, z2, z3⟩ := hd d hd'
              exact ⟨((old9 d (by omega)).trans (old8 d z3)).trans z1, z2, by omega⟩, by omega⟩, rfl, rfl, rfl, rfl, rfl⟩
        obtain ⟨i', j1, j2, j3, j4, j5⟩ := hnext
        simp [hn8, hyid, hSy, hcall, q5, hS8]
        by_cases k0 : k = 0
        · have ek : ((k : Int) == 0) = true := by rw [beq_iff_eq]; omega
          have ek1 : ((k : Int) == 1) = false := by rw [beq_eq_false_iff_ne]; omega
          have hne : ((jn : Int) != min ((ol o).length : Int) (max 1 many)) = false := by rw [bne_eq_false_iff_eq]; exact q3 k0
          simp [s8n, s8m, s8w, s8t, ek, ek1, hne, fold_max, fold_min, writeCells, w1, hS9, t9]
          refine ⟨i', by omega, ?_⟩
          simp [PtE, j2, j3, j4, j5, ← hS9, collD]
        · have ek : ((k : Int) == 0) = false := by rw [beq_eq_false_iff_ne]; omega
          have ek1 : ((k : Int) == 1) = true := by rw [beq_iff_eq]; omega
          have hj := q4 k0
          simp [s8n, s8m, s8w, s8t, ek, ek1, hj, writeCells, w1, hS9, t9]
          refine ⟨i', by omega, ?_⟩
          simp [PtE, j2, j3, j4, j5, ← hS9, collD]
      · have : k = 2 := by omega
        subst this
        have ht2 : S1.get tid = some (.cells [.int .i64 2]) := ht'
        simp [PtE, ht2]
        exact ⟨S1, ds, tid, x8, by simp, hr', nd, fun d hd' => ⟨(hd d hd').1, (hd d hd').2.1⟩⟩)
    clear hL
    obtain ⟨S9, ds, tid, x8, e9, r9, nd9, hd9⟩ := hT
    obtain ⟨rfl, rfl⟩ := Prod.mk.inj e9
    obtain ⟨Sz, z1, z2⟩ := unwind_colls (H := handler Try.prog ppol N) (res := S.next + 1) ds (S9.put (S.next + 1) (.cells [.bool true])) nd9 (fun d hd => ⟨by rw [get_put_ne (hd9 d hd).2]; exact (hd9 d hd).1, (hd9 d hd).2⟩)
    have z3 : Sz.get (S.next + 1) = some (.cells [.bool true]) := by rw [z2]; exact get_put_self r9
    simp [cw, r9, writeCells, z1, z3, takeCells_eq, isAggV]
end Go.Ab.Seat
/- The row of ImageParts. -/
namespace Go.Proofs.Ytooahmehpnbfgaa
open Go.Ab Go.Ab.Seat Go.ChangeShapes Go.WideShapes Go.ChangeAt Go.RowKit
set_option maxRecDepth 100000 in
theorem imageParts_lifted (os : Os) (started : os.Started) (H : Type) (enc : TypeId × Value → H) :
    ReturnsInHanded {} Try.checked os 5 .any (Rows.imagePartsSpec.pre6 enc Try.prog Try.f5 Rows.imagePartsRow.domain false) (Rows.imagePartsSpec.post enc Try.prog Try.f5 false true false false) := by
  refine lifted_of_ev (C := Try.checked) (rt := 4) started seatOwn (by kernel_rfl) Try.func5
    (ChangeSpec.witness6 (enc := enc) (C := Try.checked) false ⟨#[], #[.agg #[.slice none 0 0, .slice none 0 0], .int .i64 0], []⟩ 8 (by kernel_rfl) (by kernel_rfl) (by kernel_rfl) (by kernel_rfl))
    fine seatLaid ?_ ?_ ?_ ?_ ppol ?_
  · intro t ht
    rw [show Try.f5.params.toList = [25, 3] from rfl] at ht
    simp only [List.mem_cons, List.not_mem_nil, or_false] at ht
    rcases ht with rfl | rfl
    · exact ⟨by kernel_rfl, of_decide_eq_true (by kernel_rfl)⟩
    · exact ⟨by kernel_rfl, of_decide_eq_true (by kernel_rfl)⟩
  · rfl
  · exact Try.underlying4
  · refine ⟨rfl, fun H ds hds => ?_⟩
    match ds, hds with
    | [d1, d2], _ => exact ⟨rfl, rfl, rfl⟩
  · intro W args ds ps hval hA
    obtain ⟨base, hval⟩ := hval
    have hA : DataW.TrodAll enc Try.prog W 0 (fun _ => true) true [25, 3] args ds ps := hA
    obtain ⟨v0, vs0, d0, ds0, p0, q0, rfl, rfl, rfl, h0, r0⟩ := trodAll_cons hA
    obtain ⟨v1, vs1, d1, ds1, p1, q1, rfl, rfl, rfl, h1, r1⟩ := trodAll_cons r0
    obtain ⟨rfl, rfl, rfl⟩ := trodAll_nil r1
    obtain ⟨cs, rfl, -⟩ := okWide_struct Try.underlying25 (hval 0 25 v0 rfl rfl)
    obtain ⟨n1, rfl⟩ := okWide_int Try.underlying3 (hval 1 3 v1 rfl rfl)
    obtain ⟨f, -, k0⟩ := arg_agg reads_file h0
    have k1 : ListRel (ctx0 W) [.int .i64 n1] none 0 [.int .i64 n1] := one_rel rfl (by simp only [VRel])
    refine ⟨[.agg (fileC f), .int .i64 n1], ?_, 2 ^ 20 + 201, ?_⟩
    · exact k0.append (ListRel.any _ none 0 _ _ k1)
    · obtain ⟨S', e⟩ := partsLaw_run (N := 2 ^ 20 + 201) (S := { heap := [], next := 0 }) f n1 (by omega) (SOK.nil 0)
      exact ⟨_, S', e⟩
theorem imageParts_holds : Rows.ImagePartsSaid :=
  OpenClaim.holds_of_wide 5 Try.f5 rfl rfl rfl rfl rfl rfl rfl ⟨rfl, rfl, rfl, rfl, rfl⟩ rfl rfl rfl rfl rfl (by kernel_rfl) Try.func5 (by kernel_rfl)
    (of_decide_eq_true (by kernel_rfl)) (by unfold Func.isWrapper; first | (rw [if_pos (by decide +kernel)]; kernel_rfl) | (rw [if_neg (by decide +kernel)]; exact ⟨rfl, rfl⟩))
    (fun os started H enc _ => imageParts_lifted os started H enc)
#print axioms imageParts_holds
end Go.Proofs.Ytooahmehpnbfgaa
