import Derived.Test.YtooahmehpnbfgaaP09
/- Turned to symbols by program. -/
/- Sorting in place, whole. -/
namespace Go.Ab.Seat.Sy
open Go.Proofs Srt Go.Ab.Seat
set_option maxRecDepth 100000
set_option maxHeartbeats 40000000
variable {H : Handler} {N : Nat} {S : Sto}
theorem symP {n id g K : Nat} {c : SymV → SymV → Int} (hc : CmpP g K c) (hn : n < 2 ^ 28) : ∀ (w a m b : Nat) (d : DP) (S : Sto) (k : Nat), b - a ≤ w → a < m → m < b → b ≤ n → K + w + 2 * n + 10 ≤ k →
    SortedOn (lexC c) d a m → SortedOn (lexC c) d m b → PL d a m b → S.get id = some (arrD n d) → SOK S → ∃ d', SymC n id g c k a m b d S d'
  | 0, a, m, b, _, _, _, hw, h1, h2, _, _, _, _, _, _, _ => by omega
  | w + 1, a, m, b, d, S, k, hw, h1, h2, hb, hk, s1, s2, hp, hS, hK => by
    obtain ⟨k', rfl⟩ : ∃ k', k = k' + 1 := ⟨k - 1, by omega⟩
    have fin : ∀ d', Perm a b d d' → SortedOn (lexC c) d' a b → runFn Try.prog (handler Try.prog ppol k') k' ppol 107 .none [.rsl id 2 0 n, .int .i64 a, .int .i64 m, .int .i64 b, .fn (.func g) [] []] S = some (.ret .undef, .none, S.put id (arrD n d')) → SymC n id g c (k' + 1) a m b d S d' := fun d' p s h => ⟨p, s, by rw [call_func (by rfl), h]; rfl⟩
    by_cases e1 : m = a + 1
    · subst e1
      obtain ⟨d', p, s, h⟩ := symP_left (k' := k') (N := k') hc (by omega) a b d (by omega) (by omega) hb (by omega) s2 hp hS hK
      exact ⟨d', fin d' p s h⟩
    · by_cases e2 : b = m + 1
      · subst e2
        obtain ⟨d', p, s, h⟩ := symP_right (k' := k') (N := k') hc (by omega) a m d (by omega) (by omega) hb (by omega) s1 hp hS hK
        exact ⟨d', fin d' p s h⟩
      · have ih : ∀ a' m' b' (d1 : DP) (S1 : Sto), b' - a' < b - a → a' < m' → m' < b' → b' ≤ n → SortedOn (lexC c) d1 a' m' → SortedOn (lexC c) d1 m' b' → PL d1 a' m' b' → S1.get id = some (arrD n d1) → SOK S1 → ∃ d', SymC n id g c k' a' m' b' d1 S1 d' :=
          fun a' m' b' d1 S1 q1 q2 q3 q4 q5 q6 q7 q8 q9 => symP hc hn w a' m' b' d1 S1 k' (by omega) q2 q3 q4 (by omega) q5 q6 q7 q8 q9
        by_cases hm : (a + b) / 2 < m
        · obtain ⟨d', p, s, h⟩ := symP_main1 (k' := k') (N := k') hc (by omega) a m b d hn (by omega) (by omega) hb (by omega) (by omega) s1 s2 hp hS hK _ rfl hm ih
          exact ⟨d', fin d' p s h⟩
        · obtain ⟨d', p, s, h⟩ := symP_main2 (k' := k') (N := k') hc (by omega) a m b d hn (by omega) (by omega) hb (by omega) (by omega) s1 s2 hp hS hK _ rfl (by omega) ih
          exact ⟨d', fin d' p s h⟩
/-- The first pass: blocks of twenty. -/
structure St1 (c : SymV → SymV → Int) (n : Nat) (d0 : DP) where
  k : Nat
  d : DP
  kn : 20 * k ≤ n
  pm : Perm 0 n d0 d
  so : ∀ j, j < k → SortedOn (lexC c) d (20 * j) (20 * j + 20)
  qb : Qb 20 n d 0
  fa : ∀ q, 20 * k ≤ q → d q = d0 q
def St1E (S : Sto) (id n : Nat) (g : FuncId) {c : SymV → SymV → Int} {d0 : DP} (x : St1 c n d0) : St :=
  { env := envOf 63 [(0, .rsl id 2 0 n), (1, .int .i64 n), (2, .fn (.func g) [] []), (6, .int .i64 20), (7, .int .i64 (20 * x.k : Nat)), (8, .int .i64 (20 * x.k + 20 : Nat))], defs := [], par := .none, S := S.put id (arrD n x.d) }
/-- A pass with blocks that are sorted. -/
structure St2 (c : SymV → SymV → Int) (n : Nat) (d0 : DP) where
  w : Nat
  d : DP
  x7 : AV
  x8 : AV
  w20 : 20 ≤ w
  wn : w ≤ 2 * n + 20
  pm : Perm 0 n d0 d
  so : ∀ j, SortedOn (lexC c) d (w * j) (min (w * j + w) n)
  qb : Qb w n d 0
def St2E (S : Sto) (id n : Nat) (g : FuncId) {c : SymV → SymV → Int} {d0 : DP} (x : St2 c n d0) : St :=
  { env := envOf 63 [(0, .rsl id 2 0 n), (1, .int .i64 n), (2, .fn (.func g) [] []), (6, .int .i64 x.w), (7, x.x7), (8, x.x8)], defs := [], par := .none, S := S.put id (arrD n x.d) }
structure St3 (c : SymV → SymV → Int) (n : Nat) (d0 : DP) (w : Nat) where
  k : Nat
  d : DP
  kn : 2 * w * k ≤ n
  pm : Perm 0 n d0 d
  so1 : ∀ j, j < k → SortedOn (lexC c) d (2 * w * j) (2 * w * j + 2 * w)
  so2 : ∀ j, 2 * k ≤ j → SortedOn (lexC c) d (w * j) (min (w * j + w) n)
  qb1 : Qb w n d (2 * w * k)
  qb2 : Qb (2 * w) n d 0
def St3E (S : Sto) (id n : Nat) (g : FuncId) (w : Nat) {c : SymV → SymV → Int} {d0 : DP} (x : St3 c n d0 w) : St :=
  { env := envOf 63 [(0, .rsl id 2 0 n), (1, .int .i64 n), (2, .fn (.func g) [] []), (6, .int .i64 w), (7, .int .i64 (2 * w * x.k : Nat)), (8, .int .i64 (2 * w * x.k + 2 * w : Nat))], defs := [], par := .none, S := S.put id (arrD n x.d) }
theorem sq1 (w k : Nat) : w * (2 * k) = 2 * w * k := by rw [← Nat.mul_assoc, Nat.mul_comm w 2]
theorem sq2 (w k : Nat) : w * (2 * k + 1) = 2 * w * k + w := by rw [Nat.mul_succ, sq1]
/-- Merging two blocks. -/
theorem st3_merge {c : SymV → SymV → Int} {n w b : Nat} {d0 : DP} (hw : 20 ≤ w) (x : St3 c n d0 w) {d' : DP} (hb1 : 2 * w * x.k + w < b) (hb2 : b ≤ 2 * w * x.k + 2 * w) (hb3 : b ≤ n) (p : Perm (2 * w * x.k) b x.d d') (s : SortedOn (lexC c) d' (2 * w * x.k) b) :
    Perm 0 n d0 d' ∧ (∀ j, j < x.k → SortedOn (lexC c) d' (2 * w * j) (2 * w * j + 2 * w)) ∧ (∀ j, w * j ≥ b → SortedOn (lexC c) d' (w * j) (min (w * j + w) n)) ∧ (∀ c, b ≤ c → 2 * w * x.k ≤ c → Qb w n d' c) ∧ Qb (2 * w) n d' 0 := by
  refine ⟨x.pm.trans (p.mono (by omega) hb3), fun j hj => ?_, fun j hj => ?_, fun c hc hc2 => ?_, x.qb2.perm (by omega) p hb3 ⟨x.k, Nat.le_refl _, hb2⟩ (.inl (by omega))⟩
  · refine sorted_far (x.so1 j hj) p (.inl ?_)
    have := Nat.mul_le_mul_left (2 * w) (show j + 1 ≤ x.k by omega)
    rw [Nat.mul_succ] at this
    exact this
  · have hk : 2 * x.k ≤ j := by
      by_cases h : 2 * x.k ≤ j
      · exact h
      · exfalso
        have := Nat.mul_le_mul_left w (show j + 1 ≤ 2 * x.k by omega)
        rw [Nat.mul_succ, sq1] at this
        omega
    exact sorted_far (x.so2 j hk) p (.inr hj)
  · intro i h1 h2
    rw [p.out (by omega)]
    exact x.qb1 i (by omega) h2
theorem st3_pl {c : SymV → SymV → Int} {n w b : Nat} {d0 : DP} (hw : 20 ≤ w) (x : St3 c n d0 w) (hb2 : b ≤ 2 * w * x.k + 2 * w) (hb3 : b ≤ n) : PL x.d (2 * w * x.k) (2 * w * x.k + w) b := fun i j i1 i2 j1 j2 => by
  refine x.qb1.lt i1 (by omega) ?_ (by omega) (by omega)
  rw [blk_div (k := 2 * x.k) (by omega) (by rw [sq1]; exact i1) (by rw [sq1]; exact i2), blk_div (k := 2 * x.k + 1) (by omega) (by rw [sq2]; exact j1) (by rw [sq2]; omega)]
  omega
theorem stabP_run {n id g K k' : Nat} {c : SymV → SymV → Int} (hc : CmpP g K c) (hk : K + 3 * n + 20 ≤ k') (f : Nat → SymV) (hn : n < 2 ^ 20) (hN : n + n + 30 < N) (hS : S.get id = some (arrP n f)) (hK : SOK S) :
    ∃ d : DP, Perm 0 n (fun i => (f i, i)) d ∧ SortedOn (lexC c) d 0 n ∧ runFn Try.prog (handler Try.prog ppol k') N ppol 103 .none [.rsl id 2 0 n, .int .i64 n, .fn (.func g) [] []] S = some (.ret .undef, .none, S.put id (arrD n d)) := by
  obtain ⟨k2, rfl⟩ : ∃ k2, k' = k2 + 1 := ⟨k' - 1, by omega⟩
  obtain ⟨d0, hd0⟩ : ∃ d0 : DP, (fun i => (f i, i)) = d0 := ⟨_, rfl⟩
  have hS0 : S.get id = some (arrD n d0) := by rw [hS, ← hd0]; rfl
  have hid : ∀ i, (d0 i).2 = i := fun i => by rw [← hd0]
  have hpl : ∀ a b, SortedOn plt d0 a b := fun a b i j _ hij _ => by show (d0 i).2 < (d0 j).2; rw [hid, hid]; exact hij
  have f0 : n < 2 ^ 28 := by omega
  have f2 : K + n + 2 * n + 10 ≤ k2 + 1 := by omega
  rw [hd0, runFn_eq Try.func103 (by rfl)]
  clear hd0
  simp [Try.f103]
  generalize hL : loopN _ _ _ _ = L
  obtain ⟨x, st', rfl, hT⟩ := loop_fam' hL (St1E S id n g (c := c) (d0 := d0)) (fun _ r => ∃ x : St1 c n d0, ¬ (20 * x.k + 20 ≤ n) ∧ r = (.exit 0, { env := envOf 63 [(13, .bool false), (12, .int .i64 n), (11, .int .i64 (20 * x.k + 20 : Nat)), (0, .rsl id 2 0 n), (1, .int .i64 n), (2, .fn (.func g) [] []), (6, .int .i64 20), (7, .int .i64 (20 * x.k : Nat)), (8, .int .i64 (20 * x.k + 20 : Nat))], defs := [], par := .none, S := S.put id (arrD n x.d) })) (fun x => n - x.k)
    ⟨0, d0, by omega, Perm.refl _ _ _, fun _ h => by omega, fun i _ _ => by rw [hid], fun _ _ => rfl⟩ (by show n - 0 < N; omega) (by simp [St1E, put_self hS0]) (fun x => by
    clear hL
    by_cases hb : 20 * x.k + 20 ≤ n
    · have c1 : ((20 * x.k + 20 : Nat) : Int) ≤ n := by omega
      obtain ⟨d', p, s, hcall⟩ := insP_call (S := S.put id (arrD n x.d)) hc (k' := k2) (by omega) (20 * x.k) (20 * x.k + 20) x.d (by omega) (by omega) hb (by omega) (fun i j i1 hij j1 => by rw [x.fa i i1, x.fa j (by omega)]; exact hpl _ _ i j i1 hij j1) (get_put_self hS0) (hK.put (good_arrD _ _))
      rw [put_put] at hcall
      have w1 : IntKind.i64.wrap (((20 * x.k + 20 : Nat) : Int) + 20) = ((20 * (x.k + 1) + 20 : Nat) : Int) := by rw [show (((20 * x.k + 20 : Nat) : Int) + 20) = ((20 * (x.k + 1) + 20 : Nat) : Int) by omega]; exact Go.IntWalk.i64_in _ (by omega)
      simp [St1E, c1, hcall, w1, -Int.natCast_add, -Int.natCast_mul]
      refine ⟨⟨x.k + 1, d', by omega, x.pm.trans (p.mono (by omega) hb), fun j hj => ?_, x.qb.perm (by omega) p hb ⟨x.k, Nat.le_refl _, Nat.le_refl _⟩ (.inl (by omega)), fun q hq => ?_⟩, ?_, ?_⟩
      · by_cases e : j = x.k
        · rw [e]; exact s
        · exact sorted_far (x.so j (by omega)) p (.inl (by omega))
      · rw [p.out (by omega)]; exact x.fa q (by omega)
      · show n - (x.k + 1) < n - x.k; omega
      · simp [show 20 * (x.k + 1) = 20 * x.k + 20 by omega]
    · have c1 : ¬ ((20 * x.k + 20 : Nat) : Int) ≤ n := by omega
      simp [St1E, c1, -Int.natCast_add, -Int.natCast_mul]
      exact ⟨x, by omega, by simp⟩)
  clear hL
  obtain ⟨x, hx, he⟩ := hT
  obtain ⟨rfl, rfl⟩ := Prod.mk.inj he
  clear he
  obtain ⟨d1, p1, s1, hcall⟩ := insP_call (S := S.put id (arrD n x.d)) hc (k' := k2) (by omega) (20 * x.k) n x.d (by omega) x.kn (Nat.le_refl _) (by omega) (fun i j i1 hij j1 => by rw [x.fa i i1, x.fa j (by omega)]; exact hpl _ _ i j i1 hij j1) (get_put_self hS0) (hK.put (good_arrD _ _))
  rw [put_put] at hcall
  simp [hcall, -Int.natCast_add, -Int.natCast_mul]
  generalize hL : loopN _ _ _ _ = L
  have so0 : ∀ j, SortedOn (lexC c) d1 (20 * j) (min (20 * j + 20) n) := fun j => by
    by_cases e : j < x.k
    · exact (sorted_far (x.so j e) p1 (.inl (by omega))).mono (Nat.le_refl _) (by omega)
    · by_cases e2 : j = x.k
      · rw [e2]; exact s1.mono (Nat.le_refl _) (by omega)
      · intro i1 i2 h1 h2 h3; omega
  obtain ⟨y, st', rfl, hT⟩ := loop_fam' hL (St2E S id n g (c := c) (d0 := d0)) (fun _ r => ∃ x : St2 c n d0, ¬ x.w < n ∧ r.1 = .exit 2 ∧ r.2.defs = [] ∧ r.2.par = .none ∧ r.2.S = S.put id (arrD n x.d)) (fun x => n - x.w)
    ⟨20, d1, .int .i64 (20 * x.k : Nat), .int .i64 (20 * x.k + 20 : Nat), Nat.le_refl _, by omega, x.pm.trans (p1.mono (by omega) (Nat.le_refl _)), so0, x.qb.perm (by omega) p1 (Nat.le_refl _) ⟨x.k, Nat.le_refl _, by omega⟩ (.inl (by omega))⟩ (by show n - 20 < N; omega) (by simp [St2E, -Int.natCast_add, -Int.natCast_mul]) (fun y => by
    clear hL
    obtain ⟨w, d, x7, x8, w20, wn, pm, so, qb⟩ := y
    by_cases hw : w < n
    · have c1 : (w : Int) < n := by omega
      have w2 : IntKind.i64.wrap (2 * (w : Int)) = ((2 * w : Nat) : Int) := by rw [show (2 * (w : Int)) = ((2 * w : Nat) : Int) by omega]; exact Go.IntWalk.i64_in _ (by omega)
      have w3 : IntKind.i64.wrap ((w : Int) * 2) = ((2 * w : Nat) : Int) := by rw [show ((w : Int) * 2) = ((2 * w : Nat) : Int) by omega]; exact Go.IntWalk.i64_in _ (by omega)
      simp [St2E, c1, w2, -Int.natCast_add, -Int.natCast_mul]
      generalize hL2 : loopN _ _ _ _ = L2
      obtain ⟨y2, st2, rfl, hT2⟩ := loop_fam' hL2 (St3E S id n g w (c := c) (d0 := d0)) (fun _ r => ∃ x : St3 c n d0 w, ¬ (2 * w * x.k + 2 * w ≤ n) ∧ r = (.exit 4, { env := envOf 63 [(35, .bool false), (34, .int .i64 n), (33, .int .i64 (2 * w * x.k + 2 * w : Nat)), (0, .rsl id 2 0 n), (1, .int .i64 n), (2, .fn (.func g) [] []), (6, .int .i64 w), (7, .int .i64 (2 * w * x.k : Nat)), (8, .int .i64 (2 * w * x.k + 2 * w : Nat))], defs := [], par := .none, S := S.put id (arrD n x.d) })) (fun x => n - x.k)
        ⟨0, d, by omega, pm, fun _ h => by omega, fun j _ => so j, by simpa using qb, qb.two⟩ (by show n - 0 < N; omega) (by simp [St3E]) (fun x => by
        clear hL2
        by_cases hb : 2 * w * x.k + 2 * w ≤ n
        · have c2 : ((2 * w * x.k + 2 * w : Nat) : Int) ≤ n := by omega
          have v1 : IntKind.i64.wrap (((2 * w * x.k : Nat) : Int) + w) = ((2 * w * x.k + w : Nat) : Int) := by rw [← Int.natCast_add]; exact Go.IntWalk.i64_in _ (by omega)
          have v2 : IntKind.i64.wrap (((2 * w * x.k + 2 * w : Nat) : Int) + ((2 * w : Nat) : Int)) = ((2 * w * x.k + 2 * w + 2 * w : Nat) : Int) := by rw [← Int.natCast_add]; exact Go.IntWalk.i64_in _ (by omega)
          obtain ⟨d', p, s, hcall⟩ := symP hc (by omega) (n := n) (id := id) (2 * w) (2 * w * x.k) (2 * w * x.k + w) (2 * w * x.k + 2 * w) x.d (S.put id (arrD n x.d)) (k2 + 1) (by omega) (by omega) (by omega) hb (by omega)
            (by have := x.so2 (2 * x.k) (Nat.le_refl _); rw [sq1] at this; exact this.mono (Nat.le_refl _) (by omega)) (by have := x.so2 (2 * x.k + 1) (by omega); rw [sq2] at this; exact this.mono (Nat.le_refl _) (by omega)) (st3_pl w20 x (by omega) hb) (get_put_self hS0) (hK.put (good_arrD _ _))
          rw [put_put] at hcall
          simp [St3E, c2, v1, v2, w2, hcall, -Int.natCast_add, -Int.natCast_mul]
          obtain ⟨m1, m2, m3, m4, m5⟩ := st3_merge w20 x (b := 2 * w * x.k + 2 * w) (by omega) (by omega) hb p s
          have hs : 2 * w * (x.k + 1) = 2 * w * x.k + 2 * w := Nat.mul_succ _ _
          refine ⟨⟨x.k + 1, d', by omega, m1, fun j hj => ?_, fun j hj => ?_, m4 _ (by omega) (by omega), m5⟩, ?_, ?_⟩
          · by_cases e : j = x.k
            · rw [e]; exact s
            · exact m2 j (by omega)
          · refine m3 j ?_
            have := Nat.mul_le_mul_left w hj
            rw [sq1] at this
            omega
          · show n - (x.k + 1) < n - x.k
            have := Nat.mul_le_mul_right x.k (show 1 ≤ 2 * w by omega)
            omega
          · simp [hs]
        · have c2 : ¬ ((2 * w * x.k + 2 * w : Nat) : Int) ≤ n := by omega
          simp [St3E, c2, -Int.natCast_add, -Int.natCast_mul]
          exact ⟨x, by omega, by simp⟩)
      clear hL2
      obtain ⟨x, hx2, he⟩ := hT2
      obtain ⟨rfl, rfl⟩ := Prod.mk.inj he
      clear he
      have v1 : IntKind.i64.wrap (((2 * w * x.k : Nat) : Int) + w) = ((2 * w * x.k + w : Nat) : Int) := by rw [← Int.natCast_add]; exact Go.IntWalk.i64_in _ (by have := x.kn; omega)
      have hxk := x.kn
      have f1 : 0 < w := by omega
      simp [v1, -Int.natCast_add, -Int.natCast_mul]
      rcases Nat.lt_or_ge (2 * w * x.k + w) n with hm | hm
      · obtain ⟨d', p, s, hcall⟩ := symP hc f0 (n := n) (id := id) n (2 * w * x.k) (2 * w * x.k + w) n x.d (S.put id (arrD n x.d)) (k2 + 1) (Nat.sub_le _ _) (Nat.lt_add_of_pos_right f1) hm (Nat.le_refl _) f2
          (by have := x.so2 (2 * x.k) (Nat.le_refl _); rw [sq1] at this; exact this.mono (Nat.le_refl _) (by omega)) (by have := x.so2 (2 * x.k + 1) (by omega); rw [sq2] at this; exact this.mono (Nat.le_refl _) (by omega)) (st3_pl w20 x (by omega) (Nat.le_refl _)) (get_put_self hS0) (hK.put (good_arrD _ _))
        rw [put_put] at hcall
        simp [hm, w3, hcall, -Int.natCast_add, -Int.natCast_mul]
        obtain ⟨m1, m2, m3, m4, m5⟩ := st3_merge w20 x (b := n) (by omega) (by omega) (Nat.le_refl _) p s
        refine ⟨⟨2 * w, d', .int .i64 (2 * w * x.k : Nat), .int .i64 (2 * w * x.k + 2 * w : Nat), by omega, by omega, m1, fun j => ?_, m5⟩, ?_, ?_⟩
        rotate_left 1
        · show n - 2 * w < n - w; omega
        · simp [St2E, -Int.natCast_add, -Int.natCast_mul]
        · by_cases e : j < x.k
          · exact (m2 j e).mono (Nat.le_refl _) (by omega)
          · by_cases e2 : j = x.k
            · rw [e2]; exact s.mono (Nat.le_refl _) (by omega)
            · intro i1 i2 h1 h2 h3
              have := Nat.mul_le_mul_left (2 * w) (show x.k + 1 ≤ j by omega)
              rw [Nat.mul_succ] at this
              omega
      · have c3 : ¬ 2 * w * x.k + w < n := by omega
        simp [c3, w3, -Int.natCast_add, -Int.natCast_mul]
        refine ⟨⟨2 * w, x.d, .int .i64 (2 * w * x.k : Nat), .int .i64 (2 * w * x.k + 2 * w : Nat), by omega, by omega, x.pm, fun j => ?_, x.qb2⟩, ?_, ?_⟩
        rotate_left 1
        · show n - 2 * w < n - w; omega
        · simp [St2E, -Int.natCast_add, -Int.natCast_mul]
        · by_cases e : j < x.k
          · exact (x.so1 j e).mono (Nat.le_refl _) (by omega)
          · by_cases e2 : j = x.k
            · rw [e2]
              have := x.so2 (2 * x.k) (Nat.le_refl _)
              rw [sq1] at this
              exact this.mono (Nat.le_refl _) (by omega)
            · intro i1 i2 h1 h2 h3
              have := Nat.mul_le_mul_left (2 * w) (show x.k + 1 ≤ j by omega)
              rw [Nat.mul_succ] at this
              omega
    · have c1 : ¬ (w : Int) < n := by omega
      simp [St2E, c1, -Int.natCast_add, -Int.natCast_mul]
      exact ⟨⟨w, d, x7, x8, w20, wn, pm, so, qb⟩, by show n ≤ w; omega, rfl⟩)
  clear hL
  obtain ⟨z, hz, t1, t2, t3, t4⟩ := hT
  obtain ⟨env, defs, par, S2⟩ := st'
  simp only at t1 t2 t3 t4
  subst t1 t2 t3 t4
  have hs := z.so 0
  refine ⟨z.d, z.pm, ?_, by simp⟩
  rw [Nat.mul_zero, Nat.zero_add, Nat.min_eq_right (by omega)] at hs
  exact hs
end Go.Ab.Seat.Sy
/- Turned to symbols by program. -/
/- Going over a list, gathering what is gone over, sorting it. -/
namespace Go.Ab.Seat.Sy
open Go.Proofs Srt Go.Ab.Seat
set_option maxRecDepth 100000
set_option maxHeartbeats 4000000
variable {H : Handler} {N : Nat} {S : Sto}
structure VlI (Inv : Nat → Sto → Prop) (m : Nat) where
  k : Nat
  S1 : Sto
  hk : k ≤ m
  hI : Inv k S1
def VlE (Inv : Nat → Sto → Prop) (m : Nat) (y : Nat) (v : AV) (i : VlI Inv m) : St := { env := envOf 16 [(0, .yld y), (5, v), (6, .int .i64 m), (7, .int .i64 i.k)], defs := [], par := .none, S := i.S1 }
theorem valsP_run {n y c : Nat} {o : Option (List SymV)} (Inv : Nat → Sto → Prop) (hc : S.get c = some (.cells [sv false 2 symRow o])) (hm : (ol o).length < 2 ^ 30) (hN : (ol o).length < N) (h0 : Inv 0 S)
    (hy : ∀ k p S1, Inv k S1 → (ol o)[k]? = some p → ∃ S2, (handler Try.prog ppol n).call (.yield y) [.agg (symRow p)] S1 = some (.ret (.bool true), S2) ∧ Inv (k + 1) S2) :
    ∃ S', runFn Try.prog (handler Try.prog ppol n) N ppol 94 .none [.yld y, .ptr c 0] S = some (.ret .undef, .none, S') ∧ Inv (ol o).length S' := by
  rw [runFn_eq Try.func94 (by rfl)]
  simp [Try.f94, hc]
  generalize hL : loopN _ _ _ _ = L
  obtain ⟨x, st', rfl, hT⟩ := loop_fam' hL (VlE Inv (ol o).length y (sv false 2 symRow o)) (fun _ r => r.1 = .exit 0 ∧ r.2.defs = [] ∧ r.2.par = .none ∧ Inv (ol o).length r.2.S) (fun i => (ol o).length - i.k) ⟨0, S, by omega, h0⟩ (by show _ - 0 < N; omega) (by simp [VlE]) (fun i => by
    obtain ⟨k, S1, hk, hI1⟩ := i
    clear hL
    by_cases hkl : k < (ol o).length
    · obtain ⟨p, hp1⟩ : ∃ p, (ol o)[k]? = some p := ⟨_, List.getElem?_eq_getElem hkl⟩
      have g7 : IntKind.i64.wrap ((k : Int) + 1) = (k : Int) + 1 := wrap_succ hkl (by omega)
      obtain ⟨S2, hy1, hy2⟩ := hy k p S1 hI1 hp1
      have hix := index_sv (own := false) (g := symRow) (k := .i64) Try.underlying23 tycells64 hp1
      simp [VlE, hkl, hix, hy1, g7, writeCells]
      refine ⟨⟨k + 1, S2, hkl, hy2⟩, ?_, ?_⟩
      · show _ - (k + 1) < _ - k; omega
      · simp
    · have : k = (ol o).length := by omega
      subst this
      simp [VlE, hI1])
  obtain ⟨rfl, t1, t2, t3⟩ := hT
  simp only at t1 t2 t3
  refine ⟨st'.S, ?_, t3⟩
  simp [t1, t2]
end Go.Ab.Seat.Sy
/- Turned to symbols by program. -/
/- Gathering what a list has, in an array of the store's; sorting it. -/
namespace Go.Ab.Seat.Sy
open Go.Proofs Srt Go.Ab.Seat
set_option maxRecDepth 100000
set_option maxHeartbeats 4000000
variable {H : Handler} {N : Nat} {S : Sto}
theorem app_heapP {S1 : Sto} {lo : Nat} {acc : List SymV} {v x : AV} {p : SymV} (hr : rowsIn S1 2 x = some [symRow p]) (h : SlV S1 2 symRow lo (optL acc) v) (hl : acc.length < 2 ^ 29) (hlo : lo ≤ S1.next) :
    ∃ v' S2 l, (∀ env defs par, appendS Try.prog 2 23 23 v x { env := env, defs := defs, par := par, S := S1 } = some (.val v' { env := env, defs := defs, par := par, S := S2 })) ∧ SlV S2 2 symRow lo (optL (acc ++ [p])) v' ∧ Grew l S1 S2 ∧ ∀ a ∈ l, lo ≤ a := by
  have hgo : goodO (.arr 2 ((acc ++ [p]).map symRow)) = true := by
    rw [good_arr]; exact sameR_map goodSym _
  have hne : optL (acc ++ [p]) = some (acc ++ [p]) := by simp [optL]
  rw [hne]
  cases acc with
  | nil =>
    cases h
    have hb := not_big64 1 (by omega)
    refine ⟨.rsl S1.next 2 0 1, S1.new (.arr 2 ([p].map symRow)), [], ?_, ?_, Grew.new _ _ _ hgo, by simp⟩
    · intro env defs par
      unfold appendS
      simp [moreA, hr, appHeap, hb]
    · exact .arr (xs := [p]) (get_new_self _ _) hlo (by simp [next_new])
  | cons q acc =>
    rw [show optL (q :: acc) = some (q :: acc) from rfl] at h
    cases h with
    | arr h hlo' hid =>
      rename_i id
      have hb := not_big64 ((q :: acc).length + 1) (by simp at hl ⊢; omega)
      refine ⟨.rsl S1.next 2 0 (q :: acc ++ [p]).length, (S1.drop id).new (.arr 2 ((q :: acc ++ [p]).map symRow)), [id], ?_, ?_, (Grew.drop _ (.inl (by simp))).trans (Grew.new _ _ _ hgo), by simpa using hlo'⟩
      · intro env defs par
        simp only [List.map_cons, List.length_cons] at h hb
        unfold appendS
        simp [moreA, hr, appHeap, h, hb]
        intro hh; omega
      · exact .arr (get_new_self _ _) (by simpa using hlo) (by simp [next_new])
structure ApI (S0 : Sto) (b y : Nat) (r : ALoop) (xs : List SymV) (k : Nat) (S' : Sto) : Prop where
  g : ∃ x, Grew x S0 S' ∧ ∀ a ∈ x, a = b ∨ y ≤ a
  w : ∃ v, S'.get b = some (.cells [v]) ∧ SlV S' 2 symRow (y + 1) (optL (xs.take k)) v
  yy : S'.get y = some (.loop r)
theorem slv_facts {X : Type} {S : Sto} {g : X → List AV} {lo : Nat} {o : Option (List X)} {v : AV} (h : SlV S 2 g lo o v) : v.strip0 = v ∧ okTop v = true ∧ v.cells = [v] ∧ v.clr = v ∧ v.noLp = v ∧ v.strip = v ∧ sameL [v] [v] = true ∧ isAggV v = false := by
  cases h <;> simp [isAggV]
theorem apseqP_run {n c : Nat} {o : Option (List SymV)} (hc : S.get c = some (.cells [sv false 2 symRow o])) (hcl : c < S.next) (hm : (ol o).length < 2 ^ 29) (hN : (ol o).length < n) :
    ∃ v S', runFn Try.prog (handler Try.prog ppol (n + 1)) N ppol 102 .none [.nilsl, .fn (.func 94) [] [.ptr c 0]] S = some (.ret v, .none, S') ∧ Grew [] S S' ∧ SlV S' 2 symRow S.next (optL (ol o)) v := by
  rw [runFn_eq Try.func102 (by rfl)]
  simp [Try.f102]
  generalize hr : loopOf _ _ _ _ _ _ _ = r
  have hra := congrArg ALoop.assign hr
  have hrb := congrArg ALoop.body hr
  have hre := congrArg ALoop.env hr
  have hrf := congrArg ALoop.fn hr
  have hrp := congrArg ALoop.params hr
  have hrs := congrArg ALoop.state hr
  have hrn := congrArg ALoop.pending hr
  simp [loopOf] at hra hrb hre hrf hrp hrs hrn
  clear hr
  obtain ⟨b, hb⟩ : ∃ b, S.next = b := ⟨_, rfl⟩
  rw [hb] at hre
  obtain ⟨S0, hS0⟩ : ∃ S0, (((S.new (.cells [.nilsl])).new .deferred).new (.loop r)) = S0 := ⟨_, rfl⟩
  have hg0 : Grew [] S S0 := by rw [← hS0]; exact ((Grew.new _ _ _ (by simp)).trans (Grew.new _ _ _ rfl)).trans (Grew.new _ _ _ rfl)
  have hn0 : S0.next = b + 3 := by rw [← hS0, ← hb]; rfl
  have hb0 : S0.get b = some (.cells [.nilsl]) := by rw [← hS0, ← hb, get_new_ne (by simp only [next_new]; omega), get_new_ne (by simp only [next_new]; omega), get_new_self]
  have hd0 : S0.get (b + 1) = some .deferred := by rw [← hS0, ← hb]; simp
  have hy0 : S0.get (b + 2) = some (.loop r) := by rw [← hS0, ← hb]; simp
  have hc0 : S0.get c = some (.cells [sv false 2 symRow o]) := (hg0.get c hcl (by simp)).trans hc
  have hrr : ({ state := .ready, pending := none, fn := r.fn, env := r.env, params := r.params, assign := r.assign, body := r.body, defers := r.defers } : ALoop) = r := by
    obtain ⟨x1, x2, x3, x4, x5, x6, x7, x8⟩ := r
    simp only at hrs hrn
    subst hrs hrn
    rfl
  obtain ⟨S7, e4, hI7⟩ := valsP_run (n := n) (N := n) (S := S0) (y := b + 2) (ApI S0 b (b + 2) r (ol o)) hc0 (by omega) hN
    ⟨⟨[], Grew.refl _ _, fun a ha => by cases ha⟩, ⟨.nilsl, hb0, by rw [List.take_zero]; exact .nil⟩, hy0⟩
    (fun k p S1 hI hp => by
      obtain ⟨⟨x, hg, hx⟩, ⟨v, hw, hv⟩, hy⟩ := hI
      have hkl := (List.getElem?_eq_some_iff.1 hp).1
      obtain ⟨Sb, hSb⟩ : ∃ Sb, S1.put (b + 2) (.loop { r with state := .busy }) = Sb := ⟨_, rfl⟩
      have gb : Grew [b + 2] S1 Sb := by rw [← hSb]; exact Grew.put _ _ (.inl (by simp)) rfl
      have hwb : Sb.get b = some (.cells [v]) := by rw [← hSb, get_put_ne (by omega)]; exact hw
      have hyb : Sb.get (b + 2) = some (.loop { r with state := .busy }) := by rw [← hSb]; exact get_put_self hy
      have hvb : SlV Sb 2 symRow (b + 3) (optL ((ol o).take k)) v := hv.mono gb (fun a ha => by simp at ha; omega)
      have hnb : b + 3 ≤ Sb.next := by have := hg.next; have := gb.next; omega
      obtain ⟨Sc, hSc⟩ : ∃ Sc, Sb.new (.arr 2 [symRow p]) = Sc := ⟨_, rfl⟩
      have gc : Grew [] Sb Sc := by rw [← hSc]; exact Grew.new _ _ _ (by rw [good_arr]; exact sameR_map goodSym [p])
      have hvc : SlV Sc 2 symRow (b + 3) (optL ((ol o).take k)) v := hvb.mono gc (by simp)
      have hrc : rowsIn Sc 2 (.rsl Sb.next 2 0 1) = some [symRow p] := by rw [← hSc]; simp [rowsIn]
      obtain ⟨v', S2, x2, happ, hv2, hg2', hx2⟩ := app_heapP hrc hvc (by have := List.length_take_le k (ol o); omega) (by have := gc.next; omega)
      have hg2 : Grew x2 Sb S2 := (gc.mono' (by simp)).trans hg2'
      obtain ⟨f1, f2, f3, f4, f5, f6, f7, f8⟩ := slv_facts hvb
      obtain ⟨h1, h2, h3, h4, h5, h6, h7, h8⟩ := slv_facts hv2
      have hb2 : S2.get b = some (.cells [v]) := (hg2.get b (by omega) (fun hm => by have := hx2 _ hm; omega)).trans hwb
      have hy2 : S2.get (b + 2) = some (.loop { r with state := .busy }) := (hg2.get (b + 2) (by omega) (fun hm => by have := hx2 _ hm; omega)).trans hyb
      have hn2 := hg2.next
      refine ⟨(S2.put b (.cells [v'])).put (b + 2) (.loop r), ?_, ?_⟩
      · obtain ⟨n', rfl⟩ : ∃ n', n = n' + 1 := ⟨n - 1, by omega⟩
        rw [call_yield, yield_eq hy (by rw [← hrp]; rfl) (by rw [← hrf]; rfl)]
        rw [← hra, ← hre, ← hrf, ← hrp]
        simp [writeCells]
        rw [yBody_normal hy hrs.symm, hSb, ← hrb, ← hrf]
        have hps : Sb.put b (.cells [v]) = Sb := put_self hwb
        simp [hwb, takeCells_eq, f1, f3, f4, f5, f6, f8, hps, buildSliceA, fillRows, asArr, hSc, happ, hb2, h2, h3, h4, h5, h6, writeCells]
        rw [yFin_normal (r := { r with state := .busy }) (by rw [get_put_ne (by omega)]; exact hy2)]
        simp [hrr]
      · have gp : Grew [b] S2 (S2.put b (.cells [v'])) := Grew.put _ _ (.inl (by simp)) (by rw [good_cells]; exact h7)
        have gq : Grew [b + 2] (S2.put b (.cells [v'])) ((S2.put b (.cells [v'])).put (b + 2) (.loop r)) := Grew.put _ _ (.inl (by simp)) rfl
        refine ⟨⟨x ++ [b + 2] ++ x2 ++ [b], (((hg.mono' ?_).trans (gb.mono' ?_)).trans (hg2.mono' ?_)).trans ((gp.mono' ?_).trans (gq.mono' ?_)), ?_⟩, ⟨v', ?_, ?_⟩, ?_⟩
        · intro a ha; simp [ha]
        · intro a ha; simp at ha; simp [ha]
        · intro a ha; simp [ha]
        · intro a ha; simp at ha; simp [ha]
        · intro a ha; simp at ha; simp [ha]
        · intro a ha
          simp only [List.mem_append, List.mem_singleton] at ha
          rcases ha with ((ha | ha) | ha) | ha
          · exact hx a ha
          · omega
          · have := hx2 a ha; omega
          · omega
        · rw [get_put_ne (by omega)]; exact get_put_self hb2
        · rw [take_snoc hp]
          exact (hv2.mono gp (fun a ha => by simp at ha; omega)).mono gq (fun a ha => by simp at ha; omega)
        · exact get_put_self (o' := .loop { r with state := .busy }) (by rw [get_put_ne (by omega)]; exact hy2))
  obtain ⟨⟨x, hg, hx⟩, ⟨v, hw, hv⟩, hy⟩ := hI7
  rw [List.take_of_length_le (Nat.le_refl _)] at hv
  have hcall : (handler Try.prog ppol (n + 1)).call (.func 94) [.yld (b + 2), .ptr c 0] S0 = some (.ret .undef, S7) := by
    rw [call_func (by rfl), e4]; rfl
  have hrg := fun st defs => rgEnd_ret (st := st) (defs := defs) (v := .undef) hy hrs.symm hrn.symm
  have hn7 := hg.next
  obtain ⟨S8, hS8⟩ : ∃ S8, S7.drop (b + 2) = S8 := ⟨_, rfl⟩
  have g8 : Grew [b + 2] S7 S8 := by rw [← hS8]; exact Grew.drop _ (.inl (by simp))
  have hw8 : S8.get b = some (.cells [v]) := by rw [← hS8, get_drop_ne (by omega)]; exact hw
  have hd8 : S8.get (b + 1) = some .deferred := by rw [← hS8, get_drop_ne (by omega), hg.get (b + 1) (by omega) (fun hm => by have := hx _ hm; omega)]; exact hd0
  have g9 : Grew [b + 1] S8 (S8.drop (b + 1)) := Grew.drop _ (.inl (by simp))
  obtain ⟨f1, f2, f3, f4, f5, f6, f7, f8⟩ := slv_facts hv
  refine ⟨v, S8.drop (b + 1), ?_, ?_, ?_⟩
  · rw [hb]
    simp [hS0, hcall, hrg, hS8, hw8, hd8, f1, f4, f5, f6, unwind_coll]
  · refine ((hg0.behind hg (fun a ha => by have := hx a ha; omega)).behind g8 (by simp; omega)).behind g9 (by simp; omega)
  · rw [hb]
    exact ((hv.mono g8 (fun a ha => by simp at ha; omega)).mono g9 (fun a ha => by simp at ha; omega)).lower (by omega)
end Go.Ab.Seat.Sy
/- Turned to symbols by program. -/
/- A list, put in order. -/
namespace Go.Ab.Seat.Sy
open Go.Proofs Srt Go.Ab.Seat
set_option maxRecDepth 100000
set_option maxHeartbeats 4000000
variable {H : Handler} {N : Nat} {S : Sto}
theorem ins_nil {n g : Nat} (hN : 1 < n) : (handler Try.prog ppol (n + 1)).call (.func 106) [.nilsl, .int .i64 0, .int .i64 0, .fn (.func g) [] []] S = some (.ret .undef, S) := by
  rw [call_func (by rfl), runFn_eq Try.func106 (by rfl)]
  simp [Try.f106, show IntKind.i64.wrap 1 = 1 from Go.IntWalk.i64_in _ (by omega)]
  obtain ⟨n', rfl⟩ : ∃ n', n = n' + 1 := ⟨n - 1, by omega⟩
  rw [loop_step]
  simp
theorem stab_nil {n g : Nat} (hN : 3 < n) : (handler Try.prog ppol (n + 2)).call (.func 103) [.nilsl, .int .i64 0, .fn (.func g) [] []] S = some (.ret .undef, S) := by
  rw [call_func (by rfl), runFn_eq Try.func103 (by rfl)]
  simp [Try.f103]
  rw [loop_step]
  simp [ins_nil (n := n) (by omega)]
  rw [loop_step]
  simp
theorem map_tab {X Y : Type} (g : X → Y) (xs : List X) (f : Nat → X) (h : ∀ i, i < xs.length → xs[i]? = some (f i)) : xs.map g = tab xs.length fun i => g (f i) := by
  apply List.ext_getElem?
  intro i
  rw [List.getElem?_map]
  by_cases hi : i < xs.length
  · rw [h i hi, tab_get _ hi]; rfl
  · rw [List.getElem?_eq_none (by omega), List.getElem?_eq_none (by rw [tab_len]; omega)]; rfl
theorem sorP_call {n g K : Nat} {c : SymV → SymV → Int} (hc : CmpP g K c) {xs : List SymV} {v : AV} {lo : Nat} (hv : SlV S 2 symRow lo (optL xs) v) (hm : xs.length < 2 ^ 20) (hN : K + 3 * xs.length + 50 ≤ n) (hK : SOK S) :
    ∃ S' ys x, (handler Try.prog ppol n).call (.func 93) [v, .fn (.func g) [] []] S = some (.ret .undef, S') ∧ Sorted (fun x y => c x y < 0) xs ys ∧ SlV S' 2 symRow lo (optL ys) v ∧ Grew x S S' ∧ ∀ a ∈ x, lo ≤ a := by
  obtain ⟨n', rfl⟩ : ∃ n', n = n' + 4 := ⟨n - 4, by omega⟩
  cases xs with
  | nil =>
    cases hv
    refine ⟨S, [], [], ?_, Sorted.nil _, .nil, Grew.refl _ _, by simp⟩
    rw [call_func (by rfl), runFn_eq Try.func93 (by rfl)]
    simp [Try.f93, lenA, stab_nil (n := n' + 1) (S := S) (g := g) (by simp at hN; omega)]
  | cons p xs =>
    rw [show optL (p :: xs) = some (p :: xs) from rfl] at hv
    generalize hx : p :: xs = l at *
    cases hv with
    | arr h hlo hid =>
      rename_i id
      obtain ⟨f, hf⟩ : ∃ f : Nat → SymV, ∀ i, i < l.length → l[i]? = some (f i) := ⟨fun i => (l[i]?).getD p, fun i hi => by simp [hi]⟩
      have hS : S.get id = some (arrP l.length f) := by rw [h, map_tab symRow l f hf]; rfl
      obtain ⟨d, p1, s1, hrun⟩ := stabP_run (k' := n' + 2) (N := n' + 2) hc (by omega) f hm (by omega) hS hK
      have hys := Sorted.of hf p1 s1
      have hcall : (handler Try.prog ppol (n' + 3)).call (.func 103) [.rsl id 2 0 l.length, .int .i64 l.length, .fn (.func g) [] []] S = some (.ret .undef, S.put id (arrD l.length d)) := by rw [call_func (by rfl), hrun]; rfl
      refine ⟨S.put id (arrD l.length d), _, [id], ?_, hys, ?_, Grew.put _ _ (.inl (by simp)) (good_arrD _ _), by simpa using hlo⟩
      · rw [call_func (by rfl), runFn_eq Try.func93 (by rfl)]
        simp [Try.f93, lenA, hcall]
      · have hne : optL ((List.range l.length).map fun i => (d i).1) = some ((List.range l.length).map fun i => (d i).1) := by
          unfold optL
          rw [if_neg]
          rw [← hx]
          simp [List.range_succ]
        rw [hne]
        have := SlV.arr (S := S.put id (arrD l.length d)) (es := 2) (g := symRow) (lo := lo) (xs := (List.range l.length).map fun i => (d i).1) (id := id) ((get_put_self h).trans (by rw [List.map_map]; rfl)) hlo (by rw [next_put]; exact hid)
        simpa using this
theorem frz_slv {X : Type} {S : Sto} {g : X → List AV} {lo : Nat} {ys : List X} {v : AV} (h : SlV S 2 g lo (optL ys) v) : ∃ S' x, frzA true S v = (sv false 2 g (optL ys), S') ∧ Grew x S S' ∧ ∀ a ∈ x, lo ≤ a := by
  generalize ho : optL ys = o at h
  cases h with
  | nil => exact ⟨S, [], rfl, Grew.refl _ _, by simp⟩
  | arr h hlo hid =>
    rename_i xs id
    have := frzA_arr h
    rw [List.length_map] at this
    exact ⟨S.drop id, [id], this, Grew.drop _ (.inl (by simp)), by simpa using hlo⟩
theorem frzV_of {fz : Bool} {S : Sto} {v : AV} (h : isAggV v = false) : frzV fz S v = frzA fz S v := by
  cases v <;> first | (simp [isAggV] at h; done) | (cases fz <;> rfl)
theorem ordP_call {n g K : Nat} {c : SymV → SymV → Int} (hc : CmpP g K c) (o : Option (List SymV)) (hm : (ol o).length < 2 ^ 20) (hN : K + 3 * (ol o).length + 60 ≤ n) (hK : SOK S) :
    ∃ S' ys, (handler Try.prog ppol n).call (.func 46) [sv false 2 symRow o, .fn (.func g) [] []] S = some (.ret (sv false 2 symRow (optL ys)), S') ∧ Grew [] S S' ∧ Sorted (fun x y => c x y < 0) (ol o) ys := by
  obtain ⟨n', rfl⟩ : ∃ n', n = n' + 8 := ⟨n - 8, by omega⟩
  obtain ⟨S1, hS1⟩ : ∃ S1, S.new (.cells [sv false 2 symRow o]) = S1 := ⟨_, rfl⟩
  have g1 : Grew [] S S1 := by rw [← hS1]; exact Grew.new _ _ _ (by rw [good_cells]; simp [same_sv false 2 goodSym])
  have hn1 : S1.next = S.next + 1 := by rw [← hS1]; rfl
  have c1 : (handler Try.prog ppol (n' + 7)).call (.func 73) [sv false 2 symRow o] S = some (.ret (.fn (.func 94) [] [.ptr S.next 0]), S1) := by
    rw [call_func (by rfl), runFn_eq Try.func73 (by rfl)]
    simp [Try.f73, hS1]
  obtain ⟨v, S2, e2, g2, hv2⟩ := apseqP_run (n := n' + 3) (N := n' + 4) (S := S1) (c := S.next) (o := o) (by rw [← hS1]; exact get_new_self _ _) (by omega) (by omega) (by omega)
  have c2 : (handler Try.prog ppol (n' + 5)).call (.func 102) [.nilsl, .fn (.func 94) [] [.ptr S.next 0]] S1 = some (.ret v, S2) := by rw [call_func (by rfl), e2]; rfl
  obtain ⟨f1, f2, f3, f4, f5, f6, f7, f8⟩ := slv_facts hv2
  have c3 : (handler Try.prog ppol (n' + 6)).call (.func 92) [.fn (.func 94) [] [.ptr S.next 0]] S1 = some (.ret v, S2) := by
    rw [call_func (by rfl), runFn_eq Try.func92 (by rfl)]
    simp [Try.f92, c2, f4, f5]
  obtain ⟨S3, ys, x, c4, hs, hv3, g3, hx⟩ := sorP_call (n := n' + 6) hc hv2 hm (by omega) (g2.sok (g1.sok hK))
  have c5 : (handler Try.prog ppol (n' + 7)).call (.func 72) [.fn (.func 94) [] [.ptr S.next 0], .fn (.func g) [] []] S1 = some (.ret v, S3) := by
    rw [call_func (by rfl), runFn_eq Try.func72 (by rfl)]
    simp [Try.f72, c3, c4, f4, f5, f6]
  obtain ⟨S4, x4, e4, g4, hx4⟩ := frz_slv hv3
  refine ⟨S4, ys, ?_, ((g1.trans g2).behind g3 (fun a ha => by have := hx a ha; omega)).behind g4 (fun a ha => by have := hx4 a ha; omega), hs⟩
  rw [call_func (by rfl), runFn_eq Try.func46 (by rfl)]
  simp [Try.f46, c1, c5, f4, f5, f6, frzV_of f8, e4]
end Go.Ab.Seat.Sy
/- What parts and names are put in order by. -/
namespace Go.Ab.Seat
open Go.Proofs Srt
set_option maxRecDepth 100000
set_option maxHeartbeats 4000000
variable {H : Handler} {N : Nat} {S : Sto}
theorem cmpI_call {n : Nat} (a b : Int) : (handler Try.prog ppol (n + 2)).call (.func 71) [.int .i64 a, .int .i64 b] S = some (.ret (.int .i64 (cmpI a b)), S) := by
  have c1 : ∀ x : Int, (handler Try.prog ppol (n + 1)).call (.func 91) [.int .i64 x] S = some (.ret (.bool false), S) := fun x => by
    rw [call_func (by rfl), runFn_eq Try.func91 (by rfl)]
    simp [Try.f91]
  rw [call_func (by rfl), runFn_eq Try.func71 (by rfl)]
  unfold cmpI
  by_cases h1 : a < b
  · simp [Try.f71, c1, h1]
  · by_cases h2 : b < a
    · simp [Try.f71, c1, h1, h2]
    · simp [Try.f71, c1, h1, h2]
theorem cmpB_call {n : Nat} (a b : List UInt8) : (handler Try.prog ppol (n + 2)).call (.func 75) [.str a, .str b] S = some (.ret (.int .i64 (cmpB a b)), S) := by
  have c1 : ∀ x : List UInt8, (handler Try.prog ppol (n + 1)).call (.func 95) [.str x] S = some (.ret (.bool false), S) := fun x => by
    rw [call_func (by rfl), runFn_eq Try.func95 (by rfl)]
    simp [Try.f95, binA, strBin]
  rw [call_func (by rfl), runFn_eq Try.func75 (by rfl)]
  unfold cmpB
  cases h1 : Op.bytesLess a b
  · cases h2 : Op.bytesLess b a
    · have e : a = b := by
        rcases bl_tri a b with h | h | h
        · unfold bl at h; rw [h1] at h; cases h
        · exact h
        · unfold bl at h; rw [h2] at h; cases h
      subst e
      simp [Try.f75, c1, h1, binA, strBin]
    · have e : (a == b) = false := by
        rw [beq_eq_false_iff_ne]
        rintro rfl
        rw [h1] at h2; cases h2
      simp [Try.f75, c1, h1, e, binA, strBin]
  · simp [Try.f75, c1, h1, binA, strBin]
def namesC (x y : SymV) : Int := cmpB x.name y.name
def placesC (x y : SymV) : Int := cmpI x.at' y.at'
theorem names_call {n : Nat} (x y : SymV) : (handler Try.prog ppol (n + 3)).call (.func 48) [.agg (symRow x), .agg (symRow y)] S = some (.ret (.int .i64 (namesC x y)), S) := by
  rw [call_func (by rfl), runFn_eq Try.func48 (by rfl)]
  simp [Try.f48, symRow, cmpB_call, namesC]
theorem places_call {n : Nat} (x y : SymV) : (handler Try.prog ppol (n + 3)).call (.func 51) [.agg (symRow x), .agg (symRow y)] S = some (.ret (.int .i64 (placesC x y)), S) := by
  rw [call_func (by rfl), runFn_eq Try.func51 (by rfl)]
  simp [Try.f51, symRow, cmpI_call, placesC]
theorem wo_iff {α : Type} {r s : α → α → Prop} (h : ∀ x y, s x y ↔ r x y) (w : WO r) : WO s := by
  have : s = r := by funext x y; exact propext (h x y)
  rw [this]; exact w
theorem names_ok : Sy.CmpP 48 3 namesC :=
  ⟨fun x y S k hk => by obtain ⟨n, rfl⟩ : ∃ n, k = n + 3 := ⟨k - 3, by omega⟩; exact names_call x y, wo_iff (r := fun x y : SymV => bl x.name y.name) (fun x y => cmpB_neg _ _) (bl_wo.on _)⟩
theorem places_ok : Sy.CmpP 51 3 placesC :=
  ⟨fun x y S k hk => by obtain ⟨n, rfl⟩ : ∃ n, k = n + 3 := ⟨k - 3, by omega⟩; exact places_call x y, wo_iff (r := fun x y : SymV => x.at' < y.at') (fun x y => cmpI_neg _ _) (int_wo.on _)⟩
end Go.Ab.Seat
/- Images; the reference's Of. -/
namespace Go.Ab.Seat
open Go.Proofs Srt
set_option maxRecDepth 100000
set_option maxHeartbeats 4000000
variable {H : Handler} {N : Nat} {S : Sto}
/-! ### Put in -/
section
variable {X : Type}
def spot (p : X → Bool) : List X → Nat
  | [] => 0
  | y :: ys => if p y then spot p ys + 1 else 0
theorem spot_le (p : X → Bool) : ∀ ys : List X, spot p ys ≤ ys.length
  | [] => Nat.le_refl _
  | y :: ys => by
    have := spot_le p ys
    simp only [spot, List.length_cons]
    split <;> omega
theorem spot_yes (p : X → Bool) : ∀ {ys : List X} {k : Nat} {y : X}, k < spot p ys → ys[k]? = some y → p y = true
  | [], k, y, h, _ => by simp [spot] at h
  | a :: ys, k, y, h, hy => by
    simp only [spot] at h
    split at h
    · rename_i ha
      cases k with
      | zero => simp only [List.getElem?_cons_zero, Option.some.injEq] at hy; rw [← hy]; exact ha
      | succ k => exact spot_yes p (ys := ys) (k := k) (by omega) (by simpa using hy)
    · omega
theorem spot_no (p : X → Bool) : ∀ {ys : List X} {y : X}, ys[spot p ys]? = some y → p y = false
  | [], y, h => by simp at h
  | a :: ys, y, h => by
    simp only [spot] at h
    split at h
    · exact spot_no p (ys := ys) (by simpa using h)
    · rename_i ha
      simp only [List.getElem?_cons_zero, Option.some.injEq] at h
      rw [← h]; simpa using ha
def putIn (p : X → Bool) (ys : List X) (x : X) : List X := ys.take (spot p ys) ++ x :: ys.drop (spot p ys)
theorem putIn_len (p : X → Bool) (ys : List X) (x : X) : (putIn p ys x).length = ys.length + 1 := by
  have := spot_le p ys
  simp only [putIn, List.length_append, List.length_take, List.length_cons, List.length_drop]; omega
def putAll (q : X → X → Bool) (xs : List X) : List X := xs.foldl (fun ys x => putIn (fun y => q y x) ys x) []
theorem putAll_snoc (q : X → X → Bool) (xs : List X) (x : X) : putAll q (xs ++ [x]) = putIn (fun y => q y x) (putAll q xs) x := by simp [putAll]
theorem foldl_putIn_len (q : X → X → Bool) : ∀ (xs ys : List X), (xs.foldl (fun ys x => putIn (fun y => q y x) ys x) ys).length = ys.length + xs.length
  | [], ys => rfl
  | x :: xs, ys => by
    rw [List.foldl_cons, foldl_putIn_len q xs, putIn_len, List.length_cons]; omega
theorem putAll_len (q : X → X → Bool) (xs : List X) : (putAll q xs).length = xs.length := by
  unfold putAll; rw [foldl_putIn_len]; simp
/-- Where the one before k went. -/
def wasAt (q : X → X → Bool) (xs : List X) : Nat → AV
  | 0 => .undef
  | k + 1 => match xs[k]? with
    | some x => .int .i64 (spot (fun y => q y x) (putAll q (xs.take k)))
    | none => .undef
end
structure ImgV where
  bytes : Option (List UInt8)
  names : Option (List SymV)
def imgC (i : ImgV) : List AV := [sv false 1 byteRow i.bytes, sv false 2 symRow i.names]
/-! ### Parts of lists of symbols -/
theorem symTo (o : Bool) (ys : List SymV) (k : Nat) (hk : k ≤ ys.length) : sliceA Try.prog 23 (.sl o 2 (ys.map symRow)) none (some (.int .i64 k)) none = some (.sl (o && (k == ys.length)) 2 ((ys.take k).map symRow)) := by
  have := slice_hi (P := Try.prog) (own := o) (es := 2) (rows := ys.map symRow) (k := k) (kk := .i64) Try.underlying23 tycells64 (by simp; omega)
  rw [this, ← List.map_take]; simp
theorem symFrom (o : Bool) (ys : List SymV) (k : Nat) (hk : k ≤ ys.length) : sliceA Try.prog 23 (.sl o 2 (ys.map symRow)) (some (.int .i64 k)) none none = some (.sl o 2 ((ys.drop k).map symRow)) := by
  have := slice_lo (P := Try.prog) (own := o) (es := 2) (rows := ys.map symRow) (k := k) (kk := .i64) Try.underlying23 tycells64 (by simp; omega)
  rw [List.map_drop]; exact this
theorem nilTo : sliceA Try.prog 23 .nilsl none (some (.int .i64 0)) none = some .nilsl := by kernel_rfl
theorem nilFrom : sliceA Try.prog 23 .nilsl (some (.int .i64 0)) none none = some .nilsl := by kernel_rfl
theorem app_syms {st : St} {o : Bool} {xs ys : List SymV} (h : xs.length + ys.length < 2 ^ 30) : appendS Try.prog 1 23 23 (.sl true 2 (xs.map symRow)) (.sl o 2 (ys.map symRow)) st = some (.val (.sl true 2 ((xs ++ ys).map symRow)) st) := by
  rw [List.map_append]
  exact app_own Try.underlying23 Try.underlying23 (by simp) tyzero64 rfl tycells64 rfl (by simp [rowsIn, rowsOf]) (not_big64 _ (by simpa using h))
theorem app_symN {st : St} {xs : List SymV} (h : xs.length < 2 ^ 30) : appendS Try.prog 1 23 23 (.sl true 2 (xs.map symRow)) .nilsl st = some (.val (.sl true 2 (xs.map symRow)) st) := by
  have := app_own (s := st) (rows := xs.map symRow) (more := []) (v := .nilsl) Try.underlying23 Try.underlying23 (by simp) tyzero64 rfl tycells64 rfl (by simp [rowsIn, rowsOf]) (not_big64 _ (by simpa using h))
  simpa using this
theorem app_sym1 {st : St} {o : Bool} {xs : List SymV} {x : SymV} (h : xs.length < 2 ^ 29) : appendS Try.prog 1 23 23 (.sl true 2 (xs.map symRow)) (.sl o 2 [symRow x]) st = some (.val (.sl true 2 ((xs ++ [x]).map symRow)) st) :=
  app_syms (ys := [x]) (by simp; omega)
/-! ### Of -/
def before (y x : SymV) : Bool := Op.bytesLess y.name x.name
def ofParts (i : ImgV) : Option (List PartV) := if 0 < (ol i.bytes).length then some [⟨0, i.bytes⟩] else none
def ofF (i : ImgV) : FileV := ⟨ofParts i, optL (putAll before (ol i.names))⟩
def ofV (i : ImgV) : AV := if rightOk (ofF i) then .tup [.agg (fileC (ofF i)), .int .i64 0] else .tup [.agg [.nilsl, .nilsl], .int .i64 310]
theorem build45b (o : Option (List UInt8)) : buildA Try.prog 45 [(1, sv false 1 byteRow o)] = some (.agg [.int .i64 0, sv false 1 byteRow o]) := by cases o <;> kernel_rfl
theorem build41 : buildA Try.prog 41 [] = some (.agg [.nilsl, .nilsl]) := by kernel_rfl
theorem refOf_run (i : ImgV) (hm : (ol i.names).length ≤ 80) (hN : 200 < N) {n : Nat} (hn : 6600 < n) :
    runFn Try.prog (handler Try.prog ppol n) N ppol 21 .none [.agg (imgC i)] S = some (.ret (ofV i), .none, S) := by
  have hck := refCheck_callN (N := n) (S := S) (ofF i) ⟨by simp only [ofF, ofParts]; split <;> simp [ol], by simp only [ofF, ol_optL, putAll_len]; omega, by omega⟩ hn
  rw [runFn_eq Try.func21 (by rfl)]
  by_cases hz : 0 < (ol i.bytes).length
  · simp [Try.f21, imgC, hz, build45b, buildSliceA, fillRows, writeCells]
    rw [loop_go (fun k => { env := envOf 69 [(1, .box (imgC i)), (2, .box [.nilsl, .nilsl]), (4, .box [.sl true 2 [partRow ⟨0, i.bytes⟩], sv true 2 symRow (optL (putAll before ((ol i.names).take k)))]), (5, .int .i64 k), (6, wasAt before (ol i.names) k)], defs := [], par := .none, S := S }) (ol i.names).length (by omega)]
    · rw [List.take_of_length_le (Nat.le_refl _)]
      generalize hw : wasAt before (ol i.names) (ol i.names).length = w
      have hop : ofParts i = some [⟨0, i.bytes⟩] := by unfold ofParts; rw [if_pos hz]
      unfold ofV
      unfold ofF at hck ⊢
      rw [hop] at hck ⊢
      unfold chk at hck
      simp only [fileC, sv_some, List.map_cons, List.map_nil] at hck ⊢
      cases hok : rightOk ⟨some [⟨0, i.bytes⟩], optL (putAll before (ol i.names))⟩ <;> rw [hok] at hck <;> simp [imgC, hck, build25, writeCells, takeCells_eq]
    · simp [imgC, partRow, wasAt, putAll, optL, sv_none]
    · intro k hk
      obtain ⟨x, hx⟩ : ∃ x, (ol i.names)[k]? = some x := ⟨_, List.getElem?_eq_getElem hk⟩
      obtain ⟨ys, hys⟩ : ∃ ys, putAll before ((ol i.names).take k) = ys := ⟨_, rfl⟩
      have hyl : ys.length = k := by rw [← hys, putAll_len, List.length_take]; omega
      have hnext : putAll before ((ol i.names).take (k + 1)) = putIn (fun y => before y x) ys x := by rw [take_snoc hx, putAll_snoc, hys]
      have hwas : wasAt before (ol i.names) (k + 1) = .int .i64 (spot (fun y => before y x) ys) := by simp [wasAt, hx, hys]
      have hyes : ∀ {j : Nat} {y : SymV}, j < spot (fun y => before y x) ys → ys[j]? = some y → Op.bytesLess y.name x.name = true := fun h1 h2 => spot_yes (fun y => before y x) h1 h2
      have hno : ∀ {y : SymV}, ys[spot (fun y => before y x) ys]? = some y → Op.bytesLess y.name x.name = false := fun h => spot_no (fun y => before y x) h
      have hle := spot_le (fun y => before y x) ys
      rw [hys, hwas, hnext]
      unfold putIn
      generalize spot (fun y => before y x) ys = m at *
      generalize AV.sl true 2 [partRow ⟨0, i.bytes⟩] = PV at *
      have g7 : IntKind.i64.wrap ((k : Int) + 1) = (k : Int) + 1 := wrap_succ hk (by omega)
      have hix := index_sv (own := false) (g := symRow) (k := .i64) Try.underlying23 tycells64 hx
      simp [imgC, hk]
      rw [loop_go (fun j => { env := envOf 69 [(1, .box [sv false 1 byteRow i.bytes, sv false 2 symRow i.names]), (2, .box [.nilsl, .nilsl]), (4, .box [PV, sv true 2 symRow (optL ys)]), (5, .int .i64 k), (6, .int .i64 j)], defs := [], par := .none, S := S }) m (by omega)]
      · have hopt : optL (ys.take m ++ x :: ys.drop m) = some (ys.take m ++ x :: ys.drop m) := by
          unfold optL; rw [if_neg]; simp
        rw [hopt, sv_some]
        by_cases hye : ys = []
        · subst hye
          have hm0 : m = 0 := by simpa using hle
          subst hm0
          have a1 := fun st => app_symN (st := st) (xs := []) (by simp)
          have a2 := fun st o => app_sym1 (st := st) (o := o) (xs := []) (x := x) (by simp)
          have a3 := fun st => app_symN (st := st) (xs := [x]) (by simp)
          simp only [List.map_nil, List.nil_append, List.map_cons] at a1 a2 a3
          simp [optL, sv_none]
          rw [evDraw_go]
          · simp [lenA]
            rw [evDraw_go]
            · simp [hix, buildSliceA, fillRows, nilTo, nilFrom, a1, a2, a3, writeCells, g7]
            · kernel_rfl
          · kernel_rfl
        · have hoy : optL ys = some ys := by
            unfold optL; rw [if_neg]; simpa using hye
          have e1 := fun o => symTo o ys m hle
          have e2 := fun o => symFrom o ys m hle
          have a1 := fun st o => app_syms (st := st) (o := o) (xs := []) (ys := ys.take m) (by simp; omega)
          have a2 := fun st o => app_sym1 (st := st) (o := o) (xs := ys.take m) (x := x) (by simp; omega)
          have a3 := fun st o => app_syms (st := st) (o := o) (xs := ys.take m ++ [x]) (ys := ys.drop m) (by simp; omega)
          rw [show ys.take m ++ [x] ++ ys.drop m = ys.take m ++ x :: ys.drop m by simp] at a3
          simp only [List.map_nil, List.nil_append] at a1
          by_cases hml : m < ys.length
          · obtain ⟨y, hy⟩ : ∃ y, ys[m]? = some y := ⟨_, List.getElem?_eq_getElem hml⟩
            have hiy := index_sv (own := false) (g := symRow) (o := optL ys) (k := .i64) Try.underlying23 tycells64 (by rw [ol_optL]; exact hy)
            rw [hoy, sv_some] at hiy
            simp [hoy, sv_some]
            rw [evDraw_go]
            · simp [lenA, hml, hix, hiy, hno hy]
              rw [evDraw_go]
              · simp [hix, buildSliceA, fillRows, e1, e2, a1, a2, a3, writeCells, g7, -List.map_append, -List.map_take, -List.map_drop]
                simp
              · kernel_rfl
            · kernel_rfl
          · simp [hoy, sv_some]
            rw [evDraw_go]
            · simp [lenA, hml]
              rw [evDraw_go]
              · simp [hix, buildSliceA, fillRows, e1, e2, a1, a2, a3, writeCells, g7, -List.map_append, -List.map_take, -List.map_drop]
                simp
              · kernel_rfl
            · kernel_rfl
      · simp
      · intro j hj
        have hjl : j < ys.length := by omega
        obtain ⟨y, hy⟩ : ∃ y, ys[j]? = some y := ⟨_, List.getElem?_eq_getElem hjl⟩
        have hiy := index_sv (own := false) (g := symRow) (o := optL ys) (k := .i64) Try.underlying23 tycells64 (by rw [ol_optL]; exact hy)
        have g8 : IntKind.i64.wrap ((j : Int) + 1) = (j : Int) + 1 := wrap_succ hjl (by omega)
        simp
        rw [evDraw_go]
        · simp [hjl, hix, hiy, ol_optL, hyes hj hy, g8]
        · kernel_rfl
  · simp [Try.f21, imgC, hz]
    rw [loop_go (fun k => { env := envOf 69 [(1, .box (imgC i)), (2, .box [.nilsl, .nilsl]), (4, .box [.nilsl, sv true 2 symRow (optL (putAll before ((ol i.names).take k)))]), (5, .int .i64 k), (6, wasAt before (ol i.names) k)], defs := [], par := .none, S := S }) (ol i.names).length (by omega)]
    · rw [List.take_of_length_le (Nat.le_refl _)]
      generalize hw : wasAt before (ol i.names) (ol i.names).length = w
      have hop : ofParts i = none := by unfold ofParts; rw [if_neg hz]
      unfold ofV
      unfold ofF at hck ⊢
      rw [hop] at hck ⊢
      unfold chk at hck
      simp only [fileC, sv_none] at hck ⊢
      cases hok : rightOk ⟨none, optL (putAll before (ol i.names))⟩ <;> rw [hok] at hck <;> simp [imgC, hck, build25, writeCells, takeCells_eq]
    · simp [imgC, wasAt, putAll, optL, sv_none]
    · intro k hk
      obtain ⟨x, hx⟩ : ∃ x, (ol i.names)[k]? = some x := ⟨_, List.getElem?_eq_getElem hk⟩
      obtain ⟨ys, hys⟩ : ∃ ys, putAll before ((ol i.names).take k) = ys := ⟨_, rfl⟩
      have hyl : ys.length = k := by rw [← hys, putAll_len, List.length_take]; omega
      have hnext : putAll before ((ol i.names).take (k + 1)) = putIn (fun y => before y x) ys x := by rw [take_snoc hx, putAll_snoc, hys]
      have hwas : wasAt before (ol i.names) (k + 1) = .int .i64 (spot (fun y => before y x) ys) := by simp [wasAt, hx, hys]
      have hyes : ∀ {j : Nat} {y : SymV}, j < spot (fun y => before y x) ys → ys[j]? = some y → Op.bytesLess y.name x.name = true := fun h1 h2 => spot_yes (fun y => before y x) h1 h2
      have hno : ∀ {y : SymV}, ys[spot (fun y => before y x) ys]? = some y → Op.bytesLess y.name x.name = false := fun h => spot_no (fun y => before y x) h
      have hle := spot_le (fun y => before y x) ys
      rw [hys, hwas, hnext]
      unfold putIn
      generalize spot (fun y => before y x) ys = m at *
      have g7 : IntKind.i64.wrap ((k : Int) + 1) = (k : Int) + 1 := wrap_succ hk (by omega)
      have hix := index_sv (own := false) (g := symRow) (k := .i64) Try.underlying23 tycells64 hx
      simp [imgC, hk]
      rw [loop_go (fun j => { env := envOf 69 [(1, .box [sv false 1 byteRow i.bytes, sv false 2 symRow i.names]), (2, .box [.nilsl, .nilsl]), (4, .box [.nilsl, sv true 2 symRow (optL ys)]), (5, .int .i64 k), (6, .int .i64 j)], defs := [], par := .none, S := S }) m (by omega)]
      · have hopt : optL (ys.take m ++ x :: ys.drop m) = some (ys.take m ++ x :: ys.drop m) := by
          unfold optL; rw [if_neg]; simp
        rw [hopt, sv_some]
        by_cases hye : ys = []
        · subst hye
          have hm0 : m = 0 := by simpa using hle
          subst hm0
          have a1 := fun st => app_symN (st := st) (xs := []) (by simp)
          have a2 := fun st o => app_sym1 (st := st) (o := o) (xs := []) (x := x) (by simp)
          have a3 := fun st => app_symN (st := st) (xs := [x]) (by simp)
          simp only [List.map_nil, List.nil_append, List.map_cons] at a1 a2 a3
          simp [optL, sv_none]
          rw [evDraw_go]
          · simp [lenA]
            rw [evDraw_go]
            · simp [hix, buildSliceA, fillRows, nilTo, nilFrom, a1, a2, a3, writeCells, g7]
            · kernel_rfl
          · kernel_rfl
        · have hoy : optL ys = some ys := by
            unfold optL; rw [if_neg]; simpa using hye
          have e1 := fun o => symTo o ys m hle
          have e2 := fun o => symFrom o ys m hle
          have a1 := fun st o => app_syms (st := st) (o := o) (xs := []) (ys := ys.take m) (by simp; omega)
          have a2 := fun st o => app_sym1 (st := st) (o := o) (xs := ys.take m) (x := x) (by simp; omega)
          have a3 := fun st o => app_syms (st := st) (o := o) (xs := ys.take m ++ [x]) (ys := ys.drop m) (by simp; omega)
          rw [show ys.take m ++ [x] ++ ys.drop m = ys.take m ++ x :: ys.drop m by simp] at a3
          simp only [List.map_nil, List.nil_append] at a1
          by_cases hml : m < ys.length
          · obtain ⟨y, hy⟩ : ∃ y, ys[m]? = some y := ⟨_, List.getElem?_eq_getElem hml⟩
            have hiy := index_sv (own := false) (g := symRow) (o := optL ys) (k := .i64) Try.underlying23 tycells64 (by rw [ol_optL]; exact hy)
            rw [hoy, sv_some] at hiy
            simp [hoy, sv_some]
            rw [evDraw_go]
            · simp [lenA, hml, hix, hiy, hno hy]
              rw [evDraw_go]
              · simp [hix, buildSliceA, fillRows, e1, e2, a1, a2, a3, writeCells, g7, -List.map_append, -List.map_take, -List.map_drop]
                simp
              · kernel_rfl
            · kernel_rfl
          · simp [hoy, sv_some]
            rw [evDraw_go]
            · simp [lenA, hml]
              rw [evDraw_go]
              · simp [hix, buildSliceA, fillRows, e1, e2, a1, a2, a3, writeCells, g7, -List.map_append, -List.map_take, -List.map_drop]
                simp
              · kernel_rfl
            · kernel_rfl
      · simp
      · intro j hj
        have hjl : j < ys.length := by omega
        obtain ⟨y, hy⟩ : ∃ y, ys[j]? = some y := ⟨_, List.getElem?_eq_getElem hjl⟩
        have hiy := index_sv (own := false) (g := symRow) (o := optL ys) (k := .i64) Try.underlying23 tycells64 (by rw [ol_optL]; exact hy)
        have g8 : IntKind.i64.wrap ((j : Int) + 1) = (j : Int) + 1 := wrap_succ hjl (by omega)
        simp
        rw [evDraw_go]
        · simp [hjl, hix, hiy, ol_optL, hyes hj hy, g8]
        · kernel_rfl
end Go.Ab.Seat
/- The reference's Flat. -/
namespace Go.Ab.Seat
open Go.Proofs Srt
set_option maxRecDepth 100000
set_option maxHeartbeats 4000000
variable {H : Handler} {N : Nat} {S : Sto}
def upto (y x : SymV) : Bool := decide (y.at' ≤ x.at')
def flatStep (acc : List UInt8) (p : PartV) : List UInt8 := acc ++ (List.replicate (atN p - acc.length) 0 ++ ol p.bytes)
def flatB (l : List PartV) : List UInt8 := l.foldl flatStep []
theorem flatB_snoc (l : List PartV) (p : PartV) : flatB (l ++ [p]) = flatStep (flatB l) p := by simp [flatB]
def flatO (l : List PartV) : Option (List UInt8) := if l = [] then none else some (flatB l)
theorem ol_flatO (l : List PartV) : ol (flatO l) = flatB l := by
  unfold flatO; split
  · rename_i h; subst h; rfl
  · rfl
theorem flatB_len {l : List PartV} (h : pBad 0 l = false) : ∀ k, (flatB (l.take k)).length = lastN 0 (l.take k)
  | 0 => by simp [flatB, lastN]
  | k + 1 => by
    by_cases hk : k < l.length
    · obtain ⟨p, hp⟩ : ∃ p, l[k]? = some p := ⟨_, List.getElem?_eq_getElem hk⟩
      have hpo := pBad_at (x := 0) h hp
      have ih := flatB_len h k
      have := hpo.ge
      rw [take_snoc hp, flatB_snoc, lastN_snoc]
      simp only [flatStep, List.length_append, List.length_replicate]
      unfold endN plen
      omega
    · have ih := flatB_len h k
      rw [List.take_of_length_le (by omega)] at ih ⊢
      exact ih
theorem lastN_le {l : List PartV} (h : pBad 0 l = false) : ∀ k, lastN 0 (l.take k) ≤ 2048
  | 0 => by simp [lastN]
  | k + 1 => by
    by_cases hk : k < l.length
    · obtain ⟨p, hp⟩ : ∃ p, l[k]? = some p := ⟨_, List.getElem?_eq_getElem hk⟩
      rw [take_snoc hp, lastN_snoc]
      exact (pBad_at (x := 0) h hp).le
    · have ih := lastN_le h k
      rw [List.take_of_length_le (by omega)] at ih ⊢
      exact ih
theorem app_svB {st : St} {own : Bool} {o : Option (List UInt8)} {xs : List UInt8} (h : xs.length + (ol o).length < 2 ^ 40) : appendS Try.prog 1 28 28 (.sl true 1 (xs.map byteRow)) (sv own 1 byteRow o) st = some (.val (.sl true 1 ((xs ++ ol o).map byteRow)) st) := by
  rw [List.map_append]
  exact app_bytes (.inl rfl) (by cases o <;> simp [rowsIn, rowsOf, sv, ol]) (by simpa using h)
theorem zeroRow : byteRow 0 = [.int .u8 0] := rfl
theorem app_more {st : St} {s x e : TypeId} {z base v w : AV} {more : List (List AV)} (h1 : Try.prog.underlying s = some (.slice e)) (h2 : zeroA Try.prog e = some z) (h3 : z.cells.length = Try.prog.cellsOf e) (h4 : moreA Try.prog st.S e x v = some more) (h5 : appInline Try.prog e base more = some w) :
    appendS Try.prog 1 s x base v st = some (.val w st) := by
  unfold appendS
  simp only [h1, h2, if_pos h3, if_neg (show ¬ (1 = 0) by decide), if_neg (show ¬ (1 = 2) by decide), h4, h5, Option.map_some]
theorem app_zeros {st : St} {xs : List UInt8} {k : Nat} (h : xs.length + k < 2 ^ 39) : appendS Try.prog 1 28 3 (.sl true 1 (xs.map byteRow)) (.int .i64 k) st = some (.val (.sl true 1 ((xs ++ List.replicate k 0).map byteRow)) st) := by
  have hm : moreA Try.prog st.S 5 3 (.int .i64 k) = some ((List.replicate k (0 : UInt8)).map byteRow) := by
    unfold moreA
    simp only [Try.underlying3, tyzero5]
    rw [if_pos (by refine ⟨by omega, by omega, by rw [tycells5]; rfl, ?_⟩; rw [tybytes5]; omega)]
    simp [List.map_replicate, zeroRow]
  have hb : ¬ bigA Try.prog 5 ((xs.map byteRow).length + ((List.replicate k (0 : UInt8)).map byteRow).length) := not_big _ (by simp; omega)
  have ha : appInline Try.prog 5 (.sl true 1 (xs.map byteRow)) ((List.replicate k (0 : UInt8)).map byteRow) = some (.sl true 1 ((xs ++ List.replicate k 0).map byteRow)) := by
    rw [List.map_append]
    have h5 := appInline_own (P := Try.prog) (e := 5) hb
    rw [tycells5] at h5
    exact h5
  exact app_more Try.underlying28 tyzero5 (by rw [tycells5]; rfl) hm ha
def flatV (f : FileV) : AV := if rightOk f then .tup [.agg [sv false 1 byteRow (flatO (ol f.parts)), sv false 2 symRow (optL (putAll upto (ol f.names)))], .int .i64 0] else .tup [.agg [.nilsl, .nilsl], .int .i64 310]
theorem refFlat_run (f : FileV) (h : Small f 6500) (hN : 200 < N) {n : Nat} (hn : 6600 < n) :
    runFn Try.prog (handler Try.prog ppol n) N ppol 22 .none [.agg (fileC f)] S = some (.ret (flatV f), .none, S) := by
  have hck := refCheck_callN (N := n) (S := S) f h hn
  unfold flatV
  unfold chk at hck
  rw [runFn_eq Try.func22 (by rfl)]
  cases hok : rightOk f <;> rw [hok] at hck
  · simp [Try.f22, hck, build41, writeCells, takeCells_eq]
  obtain ⟨hsz1, hsz2⟩ := rightOk_sizes hok
  have hpb := rightOk_parts hok
  simp [Try.f22, hck]
  rw [loop_go (fun k => { env := envOf 91 [(1, .box (fileC f)), (2, .box [.nilsl, .nilsl]), (4, .box [sv true 1 byteRow (flatO ((ol f.parts).take k)), .nilsl]), (5, .int .i64 k), (6, .undef), (7, .undef)], defs := [], par := .none, S := S }) (ol f.parts).length (by omega)]
  · rw [List.take_of_length_le (Nat.le_refl _)]
    generalize flatO (ol f.parts) = B
    simp [fileC]
    generalize (ol f.parts).length = L
    rw [loop_go (fun k => { env := envOf 91 [(1, .box (fileC f)), (2, .box [.nilsl, .nilsl]), (4, .box [sv true 1 byteRow B, sv true 2 symRow (optL (putAll upto ((ol f.names).take k)))]), (5, .int .i64 L), (6, .int .i64 k), (7, wasAt upto (ol f.names) k)], defs := [], par := .none, S := S }) (ol f.names).length (by omega)]
    · rw [List.take_of_length_le (Nat.le_refl _)]
      generalize wasAt upto (ol f.names) (ol f.names).length = w
      simp [fileC, writeCells, takeCells_eq]
    · simp [fileC, wasAt, putAll, optL, sv_none]
    · intro k hk
      obtain ⟨x, hx⟩ : ∃ x, (ol f.names)[k]? = some x := ⟨_, List.getElem?_eq_getElem hk⟩
      obtain ⟨ys, hys⟩ : ∃ ys, putAll upto ((ol f.names).take k) = ys := ⟨_, rfl⟩
      have hyl : ys.length = k := by rw [← hys, putAll_len, List.length_take]; omega
      have hnext : putAll upto ((ol f.names).take (k + 1)) = putIn (fun y => upto y x) ys x := by rw [take_snoc hx, putAll_snoc, hys]
      have hwas : wasAt upto (ol f.names) (k + 1) = .int .i64 (spot (fun y => upto y x) ys) := by simp [wasAt, hx, hys]
      have hyes : ∀ {j : Nat} {y : SymV}, j < spot (fun y => upto y x) ys → ys[j]? = some y → y.at' ≤ x.at' := fun h1 h2 => of_decide_eq_true (spot_yes (fun y => upto y x) h1 h2)
      have hno : ∀ {y : SymV}, ys[spot (fun y => upto y x) ys]? = some y → ¬ y.at' ≤ x.at' := fun h => of_decide_eq_false (spot_no (fun y => upto y x) h)
      have hle := spot_le (fun y => upto y x) ys
      rw [hys, hwas, hnext]
      unfold putIn
      generalize spot (fun y => upto y x) ys = m at *
      have g7 : IntKind.i64.wrap ((k : Int) + 1) = (k : Int) + 1 := wrap_succ hk (by omega)
      have hix := index_sv (own := false) (g := symRow) (k := .i64) Try.underlying23 tycells64 hx
      simp [fileC, hk]
      rw [loop_go (fun j => { env := envOf 91 [(1, .box [sv false 2 partRow f.parts, sv false 2 symRow f.names]), (2, .box [.nilsl, .nilsl]), (4, .box [sv true 1 byteRow B, sv true 2 symRow (optL ys)]), (5, .int .i64 L), (6, .int .i64 k), (7, .int .i64 j)], defs := [], par := .none, S := S }) m (by omega)]
      · have hopt : optL (ys.take m ++ x :: ys.drop m) = some (ys.take m ++ x :: ys.drop m) := by
          unfold optL; rw [if_neg]; simp
        rw [hopt, sv_some]
        by_cases hye : ys = []
        · subst hye
          have hm0 : m = 0 := by simpa using hle
          subst hm0
          have a1 := fun st => app_symN (st := st) (xs := []) (by simp)
          have a2 := fun st o => app_sym1 (st := st) (o := o) (xs := []) (x := x) (by simp)
          have a3 := fun st => app_symN (st := st) (xs := [x]) (by simp)
          simp only [List.map_nil, List.nil_append, List.map_cons] at a1 a2 a3
          simp [optL, sv_none]
          rw [evDraw_go]
          · simp [lenA]
            rw [evDraw_go]
            · simp [hix, buildSliceA, fillRows, nilTo, nilFrom, a1, a2, a3, writeCells, g7]
            · kernel_rfl
          · kernel_rfl
        · have hoy : optL ys = some ys := by
            unfold optL; rw [if_neg]; simpa using hye
          have e1 := fun o => symTo o ys m hle
          have e2 := fun o => symFrom o ys m hle
          have a1 := fun st o => app_syms (st := st) (o := o) (xs := []) (ys := ys.take m) (by simp; omega)
          have a2 := fun st o => app_sym1 (st := st) (o := o) (xs := ys.take m) (x := x) (by simp; omega)
          have a3 := fun st o => app_syms (st := st) (o := o) (xs := ys.take m ++ [x]) (ys := ys.drop m) (by simp; omega)
          rw [show ys.take m ++ [x] ++ ys.drop m = ys.take m ++ x :: ys.drop m by simp] at a3
          simp only [List.map_nil, List.nil_append] at a1
          by_cases hml : m < ys.length
          · obtain ⟨y, hy⟩ : ∃ y, ys[m]? = some y := ⟨_, List.getElem?_eq_getElem hml⟩
            have hiy := index_sv (own := false) (g := symRow) (o := optL ys) (k := .i64) Try.underlying23 tycells64 (by rw [ol_optL]; exact hy)
            rw [hoy, sv_some] at hiy
            simp [hoy, sv_some]
            rw [evDraw_go]
            · simp [lenA, hml, hix, hiy, hno hy]
              rw [evDraw_go]
              · simp [hix, buildSliceA, fillRows, e1, e2, a1, a2, a3, writeCells, g7, -List.map_append, -List.map_take, -List.map_drop]
                simp
              · kernel_rfl
            · kernel_rfl
          · simp [hoy, sv_some]
            rw [evDraw_go]
            · simp [lenA, hml]
              rw [evDraw_go]
              · simp [hix, buildSliceA, fillRows, e1, e2, a1, a2, a3, writeCells, g7, -List.map_append, -List.map_take, -List.map_drop]
                simp
              · kernel_rfl
            · kernel_rfl
      · simp
      · intro j hj
        have hjl : j < ys.length := by omega
        obtain ⟨y, hy⟩ : ∃ y, ys[j]? = some y := ⟨_, List.getElem?_eq_getElem hjl⟩
        have hiy := index_sv (own := false) (g := symRow) (o := optL ys) (k := .i64) Try.underlying23 tycells64 (by rw [ol_optL]; exact hy)
        have g8 : IntKind.i64.wrap ((j : Int) + 1) = (j : Int) + 1 := wrap_succ hjl (by omega)
        simp
        rw [evDraw_go]
        · simp [hjl, hix, hiy, ol_optL, hyes hj hy, g8]
        · kernel_rfl
  · simp [flatO, sv_none]
  · intro k hk
    obtain ⟨p, hp⟩ : ∃ p, (ol f.parts)[k]? = some p := ⟨_, List.getElem?_eq_getElem hk⟩
    have hpo := pBad_at (x := 0) hpb hp
    have hlen := flatB_len hpb k
    have hlast := lastN_le hpb k
    have hge := hpo.ge
    have hat := hpo.at'
    have hple := hpo.le
    unfold endN plen at hple
    obtain ⟨o, ho⟩ : ∃ o, flatO ((ol f.parts).take k) = o := ⟨_, rfl⟩
    have hoo : ol o = flatB ((ol f.parts).take k) := by rw [← ho, ol_flatO]
    have hnext : flatO ((ol f.parts).take (k + 1)) = some (flatStep (ol o) p) := by
      rw [take_snoc hp, hoo, ← flatB_snoc]; unfold flatO; rw [if_neg (by simp)]
    rw [ho, hnext, sv_some]
    have g7 : IntKind.i64.wrap ((k : Int) + 1) = (k : Int) + 1 := wrap_succ hk (by omega)
    have hix := index_sv (own := false) (g := partRow) (k := .i64) Try.underlying22 tycells45 hp
    have hol : (ol o).length = lastN 0 ((ol f.parts).take k) := by rw [hoo, hlen]
    have hsub : IntKind.i64.wrap (p.at' - ((ol o).length : Int)) = ((atN p - (ol o).length : Nat) : Int) := by
      rw [hat, show (atN p : Int) - ((ol o).length : Int) = ((atN p - (ol o).length : Nat) : Int) by omega]; exact Go.IntWalk.i64_in _ (by omega)
    have a1 := fun st own => app_svB (st := st) (own := own) (o := o) (xs := []) (by simp; omega)
    have a2 := fun st => app_zeros (st := st) (xs := ol o) (k := atN p - (ol o).length) (by omega)
    have a3 := fun st own => app_svB (st := st) (own := own) (o := p.bytes) (xs := ol o ++ List.replicate (atN p - (ol o).length) 0) (by simp; omega)
    rw [show ol o ++ List.replicate (atN p - (ol o).length) 0 ++ ol p.bytes = flatStep (ol o) p by simp [flatStep]] at a3
    simp only [List.map_nil, List.nil_append] at a1
    generalize flatStep (ol o) p = R at *
    generalize ol o ++ List.replicate (atN p - (ol o).length) 0 = Q at *
    simp [fileC, hk]
    rw [evDraw_go]
    · simp [hix, buildSliceA, fillRows, a1, hsub, a2, a3, writeCells, g7]
    · kernel_rfl
end Go.Ab.Seat
/- The reference's Move. -/
namespace Go.Ab.Seat
open Go.Proofs Srt
set_option maxRecDepth 100000
set_option maxHeartbeats 4000000
variable {H : Handler} {N : Nat} {S : Sto}
def shiftP (d : Int) (p : PartV) : PartV := ⟨IntKind.i64.wrap (p.at' + d), p.bytes⟩
def shiftS (d : Int) (s : SymV) : SymV := ⟨s.name, IntKind.i64.wrap (s.at' + d)⟩
def moveF (f : FileV) (d : Int) : FileV := ⟨optL ((ol f.parts).map (shiftP d)), optL ((ol f.names).map (shiftS d))⟩
def moveOk (f : FileV) (d : Int) : Bool := rightOk f && decide (-2048 ≤ d) && decide (d ≤ 2048) && rightOk (moveF f d)
def moveV (f : FileV) (d : Int) : AV := if moveOk f d then .tup [.agg (fileC (moveF f d)), .int .i64 0] else .tup [.agg [.nilsl, .nilsl], .int .i64 310]
theorem build45p (a : Int) (o : Option (List UInt8)) : buildA Try.prog 45 [(0, .int .i64 a), (1, sv false 1 byteRow o)] = some (.agg [.int .i64 a, sv false 1 byteRow o]) := by cases o <;> kernel_rfl
theorem build64p (s : List UInt8) (a : Int) : buildA Try.prog 64 [(0, .str s), (1, .int .i64 a)] = some (.agg [.str s, .int .i64 a]) := by kernel_rfl
theorem refMove_run (f : FileV) (d : Int) (h : Small f 6500) (hN : 200 < N) (hp : (ol f.parts).length ≤ 80) (hm : (ol f.names).length ≤ 80) {n : Nat} (hn : 6600 < n) :
    runFn Try.prog (handler Try.prog ppol n) N ppol 24 .none [.agg (fileC f), .int .i64 d] S = some (.ret (moveV f d), .none, S) := by
  have hck := refCheck_callN (N := n) (S := S) f h hn
  have hck2 := refCheck_callN (N := n) (S := S) (moveF f d) ⟨by simp only [moveF, ol_optL, List.length_map]; omega, by simp only [moveF, ol_optL, List.length_map]; omega, by omega⟩ hn
  unfold moveV moveOk
  unfold chk at hck hck2
  rw [runFn_eq Try.func24 (by rfl)]
  cases hok : rightOk f <;> rw [hok] at hck
  · simp [Try.f24, hck, build25, writeCells, takeCells_eq]
  by_cases d1 : d < -2048
  · have e1 : decide (-2048 ≤ d) = false := by rw [decide_eq_false_iff_not]; omega
    simp [Try.f24, hck, build25, writeCells, takeCells_eq, d1, e1]
  have e1 : decide (-2048 ≤ d) = true := by rw [decide_eq_true_iff]; omega
  by_cases d2 : 2048 < d
  · have e2 : decide (d ≤ 2048) = false := by rw [decide_eq_false_iff_not]; omega
    simp [Try.f24, hck, build25, writeCells, takeCells_eq, d1, d2, e1, e2]
  have e2 : decide (d ≤ 2048) = true := by rw [decide_eq_true_iff]; omega
  rw [e1, e2]
  simp [Try.f24, hck, d1, d2]
  rw [loop_go (fun k => { env := envOf 80 [(1, .int .i64 d), (2, .box (fileC f)), (4, .box [.nilsl, .nilsl]), (6, .box [sv true 2 partRow (optL (((ol f.parts).take k).map (shiftP d))), .nilsl]), (7, .int .i64 k), (8, .undef)], defs := [], par := .none, S := S }) (ol f.parts).length (by omega)]
  · rw [List.take_of_length_le (Nat.le_refl _)]
    simp [fileC]
    rw [loop_go (fun k => { env := envOf 80 [(1, .int .i64 d), (2, .box (fileC f)), (4, .box [.nilsl, .nilsl]), (6, .box [sv true 2 partRow (optL ((ol f.parts).map (shiftP d))), sv true 2 symRow (optL (((ol f.names).take k).map (shiftS d)))]), (7, .int .i64 (ol f.parts).length), (8, .int .i64 k)], defs := [], par := .none, S := S }) (ol f.names).length (by omega)]
    · rw [List.take_of_length_le (Nat.le_refl _)]
      cases hok2 : rightOk (moveF f d) <;> rw [hok2] at hck2 <;> simp only [moveF, fileC] at hck2 ⊢ <;> simp [hck2, build25, writeCells, takeCells_eq]
    · simp [fileC, optL, sv_none]
    · intro k hk
      obtain ⟨p, hp'⟩ : ∃ p, (ol f.names)[k]? = some p := ⟨_, List.getElem?_eq_getElem hk⟩
      have g7 : IntKind.i64.wrap ((k : Int) + 1) = (k : Int) + 1 := wrap_succ hk (by omega)
      have hix := index_sv (own := false) (g := symRow) (k := .i64) Try.underlying23 tycells64 hp'
      have happ := fun st o => app_accS (st := st) (o := o) (acc := ((ol f.names).take k).map (shiftS d)) (p := shiftS d p) (by simp; omega)
      rw [take_snoc hp', List.map_append, List.map_cons, List.map_nil]
      generalize ((ol f.names).take k).map (shiftS d) = acc at *
      generalize optL ((ol f.parts).map (shiftP d)) = B
      have hrow : symRow (shiftS d p) = [.str p.name, .int .i64 (IntKind.i64.wrap (p.at' + d))] := rfl
      rw [hrow] at happ
      simp [fileC, hk]
      rw [evDraw_go]
      · simp [hix, buildSliceA, fillRows, build64p, happ, takeCells_eq, writeCells, g7]
      · kernel_rfl
  · simp [fileC, optL, sv_none]
  · intro k hk
    obtain ⟨p, hp'⟩ : ∃ p, (ol f.parts)[k]? = some p := ⟨_, List.getElem?_eq_getElem hk⟩
    have g7 : IntKind.i64.wrap ((k : Int) + 1) = (k : Int) + 1 := wrap_succ hk (by omega)
    have hix := index_sv (own := false) (g := partRow) (k := .i64) Try.underlying22 tycells45 hp'
    have happ := fun st o => app_accP (st := st) (o := o) (acc := ((ol f.parts).take k).map (shiftP d)) (p := shiftP d p) (by simp; omega)
    rw [take_snoc hp', List.map_append, List.map_cons, List.map_nil]
    generalize ((ol f.parts).take k).map (shiftP d) = acc at *
    have hrow : partRow (shiftP d p) = [.int .i64 (IntKind.i64.wrap (p.at' + d)), sv false 1 byteRow p.bytes] := rfl
    rw [hrow] at happ
    simp [fileC, hk]
    rw [evDraw_go]
    · simp [hix, buildSliceA, fillRows, build45p, happ, takeCells_eq, writeCells, g7]
    · kernel_rfl
end Go.Ab.Seat
/- Images that are the same; what an error leaves; stores to arrays. -/
namespace Go.Ab.Seat
open Go.Proofs Srt
set_option maxRecDepth 100000
set_option maxHeartbeats 4000000
variable {H : Handler} {N : Nat} {S : Sto}
theorem imgSame_run {n : Nat} (a b : ImgV) (hb : ol a.bytes = ol b.bytes) (hn : ol a.names = ol b.names) (h2 : (ol a.names).length < 2 ^ 30) (hN : (ol a.names).length < N) :
    runFn Try.prog (handler Try.prog ppol n) N ppol 25 .none [.agg (imgC a), .agg (imgC b)] S = some (.ret (.bool true), .none, S) := by
  rw [runFn_eq Try.func25 (by rfl)]
  simp [Try.f25, imgC, conv_sv, hb, hn]
  rw [loop_go (fun k => { env := envOf 40 [(2, .box (imgC a)), (3, .box (imgC b)), (5, .int .i64 k)], defs := [], par := .none, S := S }) (ol a.names).length hN]
  · simp [imgC, hn]
  · simp [imgC]
  · intro k hkl
    obtain ⟨s, hs⟩ : ∃ s, (ol a.names)[k]? = some s := ⟨_, List.getElem?_eq_getElem hkl⟩
    have hs' : (ol b.names)[k]? = some s := by rw [← hn]; exact hs
    have g7 : IntKind.i64.wrap ((k : Int) + 1) = (k : Int) + 1 := wrap_succ hkl (by omega)
    have c1 : (k : Int) < (ol a.names).length := by omega
    simp [imgC, c1]
    rw [evDraw_go]
    · simp [index_sv Try.underlying23 tycells64 _ hs, index_sv Try.underlying23 tycells64 _ hs', symNe, g7]
    · kernel_rfl
theorem clear55_call {n a : Nat} {cs : List AV} (hS : S.get a = some (.cells cs)) (hl : cs.length = 2) : (handler Try.prog ppol (n + 1)).call (.func 55) [.ptr a 0] S = some (.ret .undef, S.put a (.cells [.nilsl, .nilsl])) := by
  obtain ⟨x, y, rfl⟩ : ∃ x y, cs = [x, y] := by
    match cs, hl with
    | [x, y], _ => exact ⟨x, y, rfl⟩
  rw [call_func (by rfl), runFn_eq Try.func55 (by rfl)]
  simp [Try.f55, hS, build25, writeCells]
theorem clear54_call {n a : Nat} {cs : List AV} (hS : S.get a = some (.cells cs)) (hl : cs.length = 2) : (handler Try.prog ppol (n + 1)).call (.func 54) [.ptr a 0] S = some (.ret .undef, S.put a (.cells [.nilsl, .nilsl])) := by
  obtain ⟨x, y, rfl⟩ : ∃ x y, cs = [x, y] := by
    match cs, hl with
    | [x, y], _ => exact ⟨x, y, rfl⟩
  rw [call_func (by rfl), runFn_eq Try.func54 (by rfl)]
  simp [Try.f54, hS, build25, writeCells]
theorem clear50_call {n a : Nat} {cs : List AV} (hS : S.get a = some (.cells cs)) (hl : cs.length = 2) : (handler Try.prog ppol (n + 1)).call (.func 50) [.ptr a 0] S = some (.ret .undef, S.put a (.cells [.nilsl, .nilsl])) := by
  obtain ⟨x, y, rfl⟩ : ∃ x y, cs = [x, y] := by
    match cs, hl with
    | [x, y], _ => exact ⟨x, y, rfl⟩
  rw [call_func (by rfl), runFn_eq Try.func50 (by rfl)]
  simp [Try.f50, hS, build41, writeCells]
theorem store_row {P : Program} {env : List AV} {defs : List ADef} {par : AMode} {S : Sto} {t : TypeId} {id r off es : Nat} {rows : List (List AV)} {row row' : List AV} {v : AV} (h : S.get id = some (.arr es rows)) (hr : rows[r]? = some row) (hw : writeCells P t off row v.strip1 = some row') :
    storeS P t (.aptr id r off) v { env := env, defs := defs, par := par, S := S } = some (.val .undef { env := env, defs := defs, par := par, S := S.put id (.arr es (rows.set r row')) }) := by
  unfold storeS
  simp only [h, hr, hw, Option.map_some]
/-- A list, changed up to a place. -/
def mix {X : Type} (g : X → X) (xs : List X) (k : Nat) : List X := (xs.take k).map g ++ xs.drop k
theorem mix_get {X : Type} {g : X → X} {xs : List X} {k : Nat} {p : X} (h : xs[k]? = some p) : (mix g xs k)[k]? = some p := by
  have hlt := (List.getElem?_eq_some_iff.1 h).1
  unfold mix
  rw [List.getElem?_append_right (by simp; omega)]
  simp only [List.length_map, List.length_take, List.getElem?_drop]
  rw [Nat.min_eq_left (by omega), Nat.sub_self, Nat.add_zero]
  exact h
theorem mix_set {X : Type} {g : X → X} {xs : List X} {k : Nat} {p : X} (h : xs[k]? = some p) : (mix g xs k).set k (g p) = mix g xs (k + 1) := by
  have hlt := (List.getElem?_eq_some_iff.1 h).1
  have hp := (List.getElem?_eq_some_iff.1 h).2
  unfold mix
  have hd : xs.drop k = p :: xs.drop (k + 1) := by rw [List.drop_eq_getElem_cons hlt, hp]
  have hl : ((xs.take k).map g).length = k := by simp; omega
  rw [List.set_append_right _ _ (by omega), take_snoc h, hl, Nat.sub_self, hd]
  simp
theorem mix_zero {X : Type} (g : X → X) (xs : List X) : mix g xs 0 = xs := by simp [mix]
theorem mix_all {X : Type} (g : X → X) (xs : List X) : mix g xs xs.length = xs.map g := by simp [mix]
theorem slv2 {X : Type} {S : Sto} {g : X → List AV} {lo : Nat} {o : Option (List X)} {v : AV} (h : SlV S 2 g lo o v) : v.strip0 = v ∧ okTop v = true ∧ v.cells = [v] ∧ v.clr = v ∧ v.noLp = v ∧ v.strip = v ∧ sameL [v] [v] = true ∧ isAggV v = false := by
  cases h <;> simp [isAggV]
theorem own_run2 {n : Nat} (f : FileV) (hk : SOK S) (h1 : (ol f.parts).length < 2 ^ 30) (h2 : (ol f.names).length < 2 ^ 30) (hN : (ol f.parts).length < N) (hp : ∀ p ∈ ol f.parts, (ol p.bytes).length < 2 ^ 40) :
    ∃ v w S' m, runFn Try.prog (handler Try.prog ppol (n + 2)) N ppol 49 .none [.agg (fileC f)] S = some (.ret (.agg [v, w]), .none, S') ∧ Grew [] S S' ∧ SlV S' 2 partRow S.next f.parts v ∧ SlV S' 2 symRow m f.names w ∧ S.next ≤ m ∧ ∀ id e o l, v = .rsl id e o l → id < m := by
  obtain ⟨v, S1, e1, hg1, hv⟩ := cloneP_run (H := handler Try.prog ppol (n + 1)) (N := n + 1) (S := S) f.parts h1
  obtain ⟨w, S2, e2, hg2, hw⟩ := cloneS_run (H := handler Try.prog ppol (n + 1)) (N := n + 1) (S := S1) f.names h2
  have c1 : (handler Try.prog ppol (n + 2)).call (.func 76) [sv false 2 partRow f.parts] S = some (.ret v, S1) := by
    rw [call_func (by rfl), e1]; rfl
  have c2 : (handler Try.prog ppol (n + 2)).call (.func 77) [sv false 2 symRow f.names] S1 = some (.ret w, S2) := by
    rw [call_func (by rfl), e2]; rfl
  have hg : Grew [] S S2 := hg1.trans hg2
  have hk2 : SOK S2 := hg.sok hk
  have hv2 : SlV S2 2 partRow S.next f.parts v := hv.mono hg2 (by simp)
  have hw2 : SlV S2 2 symRow S1.next f.names w := hw
  have hvm : ∀ id e o l, v = .rsl id e o l → id < S1.next := fun id e o l he => by
    subst he
    revert hv
    generalize f.parts = oo
    intro hv
    cases hv with
    | arr _ _ h => exact h
  refine ⟨v, w, S2, S1.next, ?_, hg, hv2, hw2, hg1.next, hvm⟩
  clear hvm
  have hw0 : w.strip0 = w ∧ okTop w = true ∧ w.cells = [w] ∧ w.clr = w ∧ w.noLp = w ∧ w.strip = w ∧ isAggV w = false ∧ (∀ (x : Option (AExit × St)), nbK w x = x) := by
    revert hw2
    generalize f.names = oo
    intro hw2
    cases hw2 <;> simp [isAggV]
  obtain ⟨w1, w2, w3, w4, w5, w6, w7, w8⟩ := hw0
  have hsk := fun x => sK_grew (α := AExit × St) hk hg1 x
  rw [runFn_eq Try.func49 (by rfl)]
  simp [Try.f49, fileC]
  rw [evDraw_go]
  · generalize hfp : f.parts = o at *
    cases hv2 with
    | nil =>
      simp [c1, c2, hsk, w1, w2, w3, w4, w5, w6, w8, writeCells, lenA]
      rw [show N = (N - 1) + 1 by omega, loop_step]
      simp [w1, writeCells, takeCells_eq]
    | arr ha hlo hid =>
      rename_i xs id
      simp [c1, c2, hsk, w1, w2, w3, w4, w5, w6, w8, writeCells, lenA]
      simp only [ol, Option.getD_some] at h1 hN hp
      rw [loop_go (fun k => { env := envOf 32 [(1, .box [.rsl id 2 0 xs.length, w]), (2, .box [.nilsl, .nilsl]), (14, .int .i64 xs.length), (15, .int .i64 k)], defs := [], par := .none, S := S2 }) xs.length hN]
      · simp [w1, writeCells, takeCells_eq]
      · simp
      · intro k hk'
        obtain ⟨p, hp1⟩ : ∃ p, xs[k]? = some p := ⟨_, List.getElem?_eq_getElem hk'⟩
        have hrow : (xs.map partRow)[k]? = some (partRow p) := by rw [List.getElem?_map, hp1]; rfl
        have hix := index_rsl (id := id) (k := .i64) (len := xs.length) Try.underlying22 tycells45 hk' (by omega)
        have hln := fun env t off => loadA_aptr (P := Try.prog) (env := env) (t := t) (off := off) ha hrow
        have hst := fun env defs par => storeS_arr (P := Try.prog) (env := env) (defs := defs) (par := par) (t := 28) (off := 1) (v := sv true 1 byteRow p.bytes) ha hrow (by simp [writeCells, partRow])
        have g7 : IntKind.i64.wrap ((k : Int) + 1) = (k : Int) + 1 := wrap_succ hk' (by omega)
        have hsk2 := fun x => sK_self (α := AExit × St) hk2 x
        have hcl := fun own => clone_call (n := n + 1) (S := S2) own p.bytes (hp p (List.mem_of_getElem? hp1))
        simp [hk']
        rw [evDraw_go]
        · simp [w1, hix, hln, hst, hcl, hsk2, g7, partRow]
        · kernel_rfl
  · kernel_rfl
theorem own_call2 {n : Nat} (f : FileV) (hk : SOK S) (h1 : (ol f.parts).length < 2 ^ 30) (h2 : (ol f.names).length < 2 ^ 30) (hN : (ol f.parts).length < n + 2) (hp : ∀ p ∈ ol f.parts, (ol p.bytes).length < 2 ^ 40) :
    ∃ v w S' m, (handler Try.prog ppol (n + 3)).call (.func 49) [.agg (fileC f)] S = some (.ret (.agg [v, w]), S') ∧ Grew [] S S' ∧ SlV S' 2 partRow S.next f.parts v ∧ SlV S' 2 symRow m f.names w ∧ S.next ≤ m ∧ ∀ id e o l, v = .rsl id e o l → id < m := by
  obtain ⟨v, w, S', m, e, h⟩ := own_run2 (n := n) (N := n + 2) f hk h1 h2 hN hp
  exact ⟨v, w, S', m, by rw [call_func (by rfl), e]; rfl, h⟩
theorem len_slv {X : Type} {S : Sto} {t e : TypeId} {g : X → List AV} {lo : Nat} {o : Option (List X)} {v : AV} (ht : Try.prog.underlying t = some (.slice e)) (h : SlV S 2 g lo o v) : lenA Try.prog S t v = some (.int .i64 (ol o).length) := by
  cases h <;> simp [lenA, ht, ol]
end Go.Ab.Seat
/- The program's Move. -/
namespace Go.Ab.Seat
open Go.Proofs Srt
set_option maxRecDepth 100000
set_option maxHeartbeats 4000000
variable {H : Handler} {N : Nat} {S : Sto}
def outF (f : FileV) (d : Int) : FileV := ⟨f.parts.map (List.map (shiftP d)), f.names.map (List.map (shiftS d))⟩
def pmoveOk (f : FileV) (d : Int) : Bool := rightOk f && decide (-2048 ≤ d) && decide (d ≤ 2048) && rightOk (outF f d)
def errF : AV := .tup [.agg [.nilsl, .nilsl], .int .i64 310]
def pmoveV (f : FileV) (d : Int) : AV := if pmoveOk f d then .tup [.agg (fileC (outF f d)), .int .i64 0] else errF
theorem ol_omap {X Y : Type} (g : X → Y) (o : Option (List X)) : ol (o.map (List.map g)) = (ol o).map g := by cases o <;> rfl
theorem frzA_sv {X : Type} {b own : Bool} {S : Sto} {e : Nat} {g : X → List AV} {o : Option (List X)} : frzA b S (sv own e g o) = (sv own e g o, S) := by cases o <;> cases b <;> rfl
theorem frz2 {S : Sto} {a lo m : Nat} {v w : AV} {o : Option (List PartV)} {q : Option (List SymV)} (ha : S.get a = some (.cells [v, w])) (hv : SlV S 2 partRow lo o v) (hw : SlV S 2 symRow m q w) (hvm : ∀ id e o l, v = .rsl id e o l → id < m) (hal : a < lo) (hlm : lo ≤ m) :
    ∃ S' x, frzBox S a 2 = S' ∧ S'.get a = some (.cells [sv false 2 partRow o, sv false 2 symRow q]) ∧ Grew x S S' ∧ ∀ b ∈ x, b = a ∨ lo ≤ b := by
  have one : ∃ S1 x, frzAt S a 0 = S1 ∧ S1.get a = some (.cells [sv false 2 partRow o, w]) ∧ Grew x S S1 ∧ (∀ b ∈ x, b = a ∨ (lo ≤ b ∧ b < m)) := by
    cases hv with
    | nil => exact ⟨S, [], by simp [frzAt, ha], ha, Grew.refl _ _, by simp⟩
    | arr h1 h2 h3 =>
      rename_i xs id
      have hid := hvm _ _ _ _ rfl
      have hne : a ≠ id := by omega
      refine ⟨(S.drop id).put a (.cells [.sl false 2 (xs.map partRow), w]), [id, a], ?_, ?_, ?_, by simp; omega⟩
      · simp [frzAt, ha, h1]
      · exact get_put_self (by rw [get_drop_ne hne]; exact ha)
      · exact (Grew.drop _ (.inl (by simp))).trans (Grew.put _ _ (.inl (by simp)) (by
          have g0 := hw
          rw [good_cells]
          obtain ⟨-, -, -, -, -, -, w7, -⟩ := slv2 hw
          simp [sameL, AV.same] at w7 ⊢
          exact ⟨sameR_map goodPart _, w7⟩))
  obtain ⟨S1, x1, e1, ha1, g1, hx1⟩ := one
  have hw1 : SlV S1 2 symRow m q w := hw.mono g1 (fun b hb => by rcases hx1 b hb with rfl | h <;> omega)
  have e2 : frzBox S a 2 = frzAt S1 a 1 := by rw [← e1]; rfl
  rw [e2]
  cases hw1 with
  | nil => exact ⟨S1, x1, by simp [frzAt, ha1], ha1, g1, fun b hb => by rcases hx1 b hb with h | h <;> omega⟩
  | arr h1 h2 h3 =>
    rename_i xs id
    have hne : a ≠ id := by omega
    refine ⟨(S1.drop id).put a (.cells [sv false 2 partRow o, sv false 2 symRow (some xs)]), id :: a :: x1, ?_, ?_, ?_, ?_⟩
    · simp [frzAt, ha1, h1, sv_some]
    · exact get_put_self (by rw [get_drop_ne hne]; exact ha1)
    · exact ((g1.mono (by intro b hb; simp [hb])).trans (Grew.drop _ (.inl (by simp)))).trans (Grew.put _ _ (.inl (by simp)) (by rw [good_cells]; simp [same_sv false 2 goodPart, same_sv false 2 goodSym]))
    · intro b hb
      simp only [List.mem_cons] at hb
      rcases hb with rfl | rfl | hb
      · omega
      · exact .inl rfl
      · rcases hx1 b hb with h | h <;> omega
theorem move_run {n : Nat} (f : FileV) (d : Int) (h : Small f n) (hk : SOK S) (hp80 : (ol f.parts).length ≤ 80) (hm80 : (ol f.names).length ≤ 80) :
    ∃ S', runFn Try.prog (handler Try.prog ppol (n + 10)) (n + 10) ppol 23 .none [.agg (fileC f), .int .i64 d] S = some (.ret (pmoveV f d), .none, S') ∧ Grew [] S S' := by
  have hbig := h.big
  obtain ⟨a, ha⟩ : ∃ a, S.next = a := ⟨_, rfl⟩
  obtain ⟨S1, hS1⟩ : ∃ S1, (S.new (.cells [.nilsl, .nilsl])).new (.cells [.int .i64 0]) = S1 := ⟨_, rfl⟩
  have g01 : Grew [] S S1 := by rw [← hS1]; exact (Grew.new _ _ _ (by simp)).trans (Grew.new _ _ _ (by simp))
  have hn1 : S1.next = a + 2 := by rw [← hS1, ← ha]; rfl
  have ha1 : S1.get a = some (.cells [.nilsl, .nilsl]) := by rw [← hS1, ← ha]; simp
  have hb1 : S1.get (a + 1) = some (.cells [.int .i64 0]) := by rw [← hS1, ← ha]; simp
  obtain ⟨S2, c1, g12⟩ := right_call (n := n + 4) (S := S1) f (h.up (by omega))
  have ha2 := (g12.get a (by omega) (by simp)).trans ha1
  have hb2 := (g12.get (a + 1) (by omega) (by simp)).trans hb1
  -- what is left where it ends in an error
  have bad : ∀ (S' : Sto) (cs : List AV), S'.get a = some (.cells cs) → cs.length = 2 → S'.get (a + 1) = some (.cells [.int .i64 0]) →
      (handler Try.prog ppol (n + 10)).callD 30 [.ptr (a + 1) 0, .fn (.func 55) [] [.ptr a 0]] (.panicking [⟨.iface 29 (.int .i64 310), false⟩]) S' = some (.ret .undef, .panicking [⟨.iface 29 (.int .i64 310), true⟩], (S'.put a (.cells [.nilsl, .nilsl])).put (a + 1) (.cells [.int .i64 310])) ∧
      ((S'.put a (.cells [.nilsl, .nilsl])).put (a + 1) (.cells [.int .i64 310])).get a = some (.cells [.nilsl, .nilsl]) ∧ ((S'.put a (.cells [.nilsl, .nilsl])).put (a + 1) (.cells [.int .i64 310])).get (a + 1) = some (.cells [.int .i64 310]) ∧
      Grew [a, a + 1] S' ((S'.put a (.cells [.nilsl, .nilsl])).put (a + 1) (.cells [.int .i64 310])) := fun S' cs h1 hl h2 => by
    have h2' : (S'.put a (.cells [.nilsl, .nilsl])).get (a + 1) = some (.cells [.int .i64 0]) := by rw [get_put_ne (by omega)]; exact h2
    refine ⟨caught_pan (n := n + 9) (S := S') 55 [.ptr a 0] 310 (clear55_call (n := n + 8) h1 hl) h2', ?_, get_put_self h2', ?_⟩
    · rw [get_put_ne (by omega)]; exact get_put_self h1
    · exact (Grew.put _ _ (.inl (by simp)) (by simp)).trans (Grew.put _ _ (.inl (by simp)) (by simp))
  rw [runFn_eq Try.func23 (by rfl)]
  unfold pmoveV pmoveOk
  cases hok : rightOk f <;> rw [hok] at c1
  · obtain ⟨b1, b2, b3, b4⟩ := bad S2 _ ha2 rfl hb2
    refine ⟨_, ?_, (g01.trans g12).behind b4 (by simp; omega)⟩
    simp [Try.f23, ha, hS1, c1, errPan, b1, b2, b3, takeCells_eq, isAggV, errF, put_self b2, put_self b3]
  by_cases d1 : d < -2048
  · have e1 : decide (-2048 ≤ d) = false := by rw [decide_eq_false_iff_not]; omega
    have d1' : ¬ -2048 ≤ d := by omega
    have cm := must_call (n := n + 9) (S := S2) false 310
    obtain ⟨b1, b2, b3, b4⟩ := bad S2 _ ha2 rfl hb2
    refine ⟨_, ?_, (g01.trans g12).behind b4 (by simp; omega)⟩
    simp [Try.f23, ha, hS1, c1, d1', cm, b1, b2, b3, takeCells_eq, isAggV, errF, put_self b2, put_self b3]
  have e1 : decide (-2048 ≤ d) = true := by rw [decide_eq_true_iff]; omega
  have d1' : -2048 ≤ d := by omega
  by_cases d2 : 2048 < d
  · have e2 : decide (d ≤ 2048) = false := by rw [decide_eq_false_iff_not]; omega
    have d2' : ¬ d ≤ 2048 := by omega
    have cm := must_call (n := n + 9) (S := S2) false 310
    obtain ⟨b1, b2, b3, b4⟩ := bad S2 _ ha2 rfl hb2
    refine ⟨_, ?_, (g01.trans g12).behind b4 (by simp; omega)⟩
    simp [Try.f23, ha, hS1, c1, d1', d2', cm, b1, b2, b3, takeCells_eq, isAggV, errF, put_self b2, put_self b3]
  have e2 : decide (d ≤ 2048) = true := by rw [decide_eq_true_iff]; omega
  have d2' : d ≤ 2048 := by omega
  have cm := must_call (n := n + 9) (S := S2) true 310
  obtain ⟨hsz1, hsz2⟩ := rightOk_sizes hok
  have hpb := rightOk_parts hok
  have hk2 : SOK S2 := g12.sok (g01.sok hk)
  obtain ⟨v, w, S3, m, c3, g23, hv, hw, hm, hvm⟩ := own_call2 (n := n + 7) (S := S2) f hk2 (by omega) (by omega) (by omega) (fun p hp => by have := pBad_each hpb p hp; omega)
  obtain ⟨v1, v2, v3, v4, v5, v6, v7, v8⟩ := slv2 hv
  obtain ⟨w1, w2, w3, w4, w5, w6, w7, w8⟩ := slv2 hw
  have hn2 := g12.next
  have hn3 := g23.next
  have ha3 := (g23.get a (by omega) (by simp)).trans ha2
  have hb3 := (g23.get (a + 1) (by omega) (by simp)).trans hb2
  obtain ⟨S4, hS4⟩ : ∃ S4, S3.put a (.cells [v, w]) = S4 := ⟨_, rfl⟩
  have g34 : Grew [a] S3 S4 := by rw [← hS4]; exact Grew.put _ _ (.inl (by simp)) (by rw [good_cells]; simp [sameL] at v7 w7 ⊢; exact ⟨v7, w7⟩)
  have ha4 : S4.get a = some (.cells [v, w]) := by rw [← hS4]; exact get_put_self ha3
  have hb4 : S4.get (a + 1) = some (.cells [.int .i64 0]) := by rw [← hS4, get_put_ne (by omega)]; exact hb3
  have hv4 : SlV S4 2 partRow S2.next f.parts v := hv.mono g34 (fun x hx => by simp at hx; omega)
  have hw4 : SlV S4 2 symRow m f.names w := hw.mono g34 (fun x hx => by simp at hx; omega)
  have hn4 : S4.next = S3.next := by rw [← hS4]; rfl
  rw [e1, e2]
  simp [Try.f23, ha, hS1, c1, d1', d2', cm, c3, v1, v5, v6, w1, ha3, ha4, writeCells, hS4]
  have lv := len_slv Try.underlying22 hv4
  simp [lv]
  generalize hL : loopN _ _ _ _ = L
  -- the parts
  obtain ⟨S5, hL5, x5, g45, hx5, hv5⟩ : ∃ S5, L = some (.exit 0, { env := envOf 57 [(1, .int .i64 d), (4, .ptr a 0), (5, .ptr (a + 1) 0), (22, .int .i64 (ol f.parts).length), (23, .int .i64 (ol f.parts).length), (24, .bool false), (39, .undef), (40, .undef)], defs := [⟨.fn (.func 30) [], [.ptr (a + 1) 0, .fn (.func 55) [] [.ptr a 0]]⟩], par := .none, S := S5 }) ∧
      ∃ x, Grew x S4 S5 ∧ (∀ b ∈ x, S2.next ≤ b ∧ b < m) ∧ SlV S5 2 partRow S2.next (outF f d).parts v := by
    rw [← hL]
    clear hL
    unfold outF
    generalize hfp : f.parts = o at *
    cases hv4 with
    | nil =>
      refine ⟨S4, ?_, [], Grew.refl _ _, by simp, .nil⟩
      rw [loop_step]
      simp [ol]
    | arr harr hlo hid =>
      rename_i xs id
      simp only [ol, Option.getD_some] at hp80 hsz1
      have hidm := hvm _ _ _ _ rfl
      refine ⟨S4.put id (.arr 2 ((xs.map (shiftP d)).map partRow)), ?_, [id], Grew.put _ _ (.inl (by simp)) (by rw [good_arr]; exact sameR_map goodPart _), by simp; omega, ?_⟩
      rw [loop_go (fun k => { env := envOf 57 [(1, .int .i64 d), (4, .ptr a 0), (5, .ptr (a + 1) 0), (22, .int .i64 xs.length), (23, .int .i64 k), (39, .undef), (40, .undef)], defs := [⟨.fn (.func 30) [], [.ptr (a + 1) 0, .fn (.func 55) [] [.ptr a 0]]⟩], par := .none, S := S4.put id (.arr 2 ((mix (shiftP d) xs k).map partRow)) }) xs.length (by omega)]
      · rw [mix_all]
        simp [ol]
      · rw [mix_zero, put_self harr]
        simp [ol]
      · intro k hk'
        obtain ⟨p, hp1⟩ : ∃ p, xs[k]? = some p := ⟨_, List.getElem?_eq_getElem hk'⟩
        have hne : a ≠ id := by omega
        have hgi : (S4.put id (.arr 2 ((mix (shiftP d) xs k).map partRow))).get id = some (.arr 2 ((mix (shiftP d) xs k).map partRow)) := get_put_self harr
        have hga : (S4.put id (.arr 2 ((mix (shiftP d) xs k).map partRow))).get a = some (.cells [.rsl id 2 0 xs.length, w]) := by rw [get_put_ne hne]; exact ha4
        have hrow : ((mix (shiftP d) xs k).map partRow)[k]? = some (partRow p) := by rw [List.getElem?_map, mix_get hp1]; rfl
        have hix := index_rsl (id := id) (k := .i64) (len := xs.length) Try.underlying22 tycells45 hk' (by omega)
        have hln := fun env t off => loadA_aptr (P := Try.prog) (env := env) (t := t) (off := off) hgi hrow
        have hst := fun env defs par => store_row (P := Try.prog) (env := env) (defs := defs) (par := par) (t := 3) (off := 0) (v := .int .i64 (IntKind.i64.wrap (p.at' + d))) (row' := partRow (shiftP d p)) hgi hrow (by simp [writeCells, partRow, shiftP])
        have hset : ((mix (shiftP d) xs k).map partRow).set k (partRow (shiftP d p)) = (mix (shiftP d) xs (k + 1)).map partRow := by rw [← List.map_set, mix_set hp1]
        rw [hset, put_put] at hst
        have g7 : IntKind.i64.wrap ((k : Int) + 1) = (k : Int) + 1 := wrap_succ hk' (by omega)
        generalize (mix (shiftP d) xs k).map partRow = R at *
        simp [hk', hga, hix, hln, partRow, hst, g7]
      · have := SlV.arr (S := S4.put id (.arr 2 ((xs.map (shiftP d)).map partRow))) (es := 2) (g := partRow) (lo := S2.next) (xs := xs.map (shiftP d)) (id := id) (get_put_self harr) hlo (by rw [next_put]; exact hid)
        simpa using this
  subst hL5
  clear hL
  have ha5 : S5.get a = some (.cells [v, w]) := (g45.get a (by omega) (fun hh => by have := hx5 a hh; omega)).trans ha4
  have hb5 : S5.get (a + 1) = some (.cells [.int .i64 0]) := (g45.get (a + 1) (by omega) (fun hh => by have := hx5 _ hh; omega)).trans hb4
  have hw5 : SlV S5 2 symRow m f.names w := hw4.mono g45 (fun b hb => .inl (hx5 b hb).2)
  have hn5 := g45.next
  have lw := len_slv Try.underlying23 hw5
  generalize hlp : (ol f.parts).length = lp at *
  simp [ha5, lw, w1, w5, w6]
  generalize hL : loopN _ _ _ _ = L
  -- the names
  obtain ⟨S6, hL6, x6, g56, hx6, hw6⟩ : ∃ S6, L = some (.exit 2, { env := envOf 57 [(1, .int .i64 d), (4, .ptr a 0), (5, .ptr (a + 1) 0), (22, .int .i64 lp), (23, .int .i64 lp), (39, .int .i64 (ol f.names).length), (40, .int .i64 (ol f.names).length), (41, .bool false)], defs := [⟨.fn (.func 30) [], [.ptr (a + 1) 0, .fn (.func 55) [] [.ptr a 0]]⟩], par := .none, S := S6 }) ∧
      ∃ x, Grew x S5 S6 ∧ (∀ b ∈ x, m ≤ b) ∧ SlV S6 2 symRow m (outF f d).names w := by
    rw [← hL]
    clear hL
    unfold outF
    generalize hfp : f.names = o at *
    cases hw5 with
    | nil =>
      refine ⟨S5, ?_, [], Grew.refl _ _, by simp, .nil⟩
      rw [loop_step]
      simp [ol]
    | arr harr hlo hid =>
      rename_i xs id
      simp only [ol, Option.getD_some] at hm80 hsz2
      refine ⟨S5.put id (.arr 2 ((xs.map (shiftS d)).map symRow)), ?_, [id], Grew.put _ _ (.inl (by simp)) (by rw [good_arr]; exact sameR_map goodSym _), by simp; omega, ?_⟩
      rw [loop_go (fun k => { env := envOf 57 [(1, .int .i64 d), (4, .ptr a 0), (5, .ptr (a + 1) 0), (22, .int .i64 lp), (23, .int .i64 lp), (39, .int .i64 xs.length), (40, .int .i64 k)], defs := [⟨.fn (.func 30) [], [.ptr (a + 1) 0, .fn (.func 55) [] [.ptr a 0]]⟩], par := .none, S := S5.put id (.arr 2 ((mix (shiftS d) xs k).map symRow)) }) xs.length (by omega)]
      · rw [mix_all]
        simp [ol]
      · rw [mix_zero, put_self harr]
        simp [ol]
      · intro k hk'
        obtain ⟨p, hp1⟩ : ∃ p, xs[k]? = some p := ⟨_, List.getElem?_eq_getElem hk'⟩
        have hne : a ≠ id := by omega
        have hgi : (S5.put id (.arr 2 ((mix (shiftS d) xs k).map symRow))).get id = some (.arr 2 ((mix (shiftS d) xs k).map symRow)) := get_put_self harr
        have hga : (S5.put id (.arr 2 ((mix (shiftS d) xs k).map symRow))).get a = some (.cells [v, .rsl id 2 0 xs.length]) := by rw [get_put_ne hne]; exact ha5
        have hrow : ((mix (shiftS d) xs k).map symRow)[k]? = some (symRow p) := by rw [List.getElem?_map, mix_get hp1]; rfl
        have hix := index_rsl (id := id) (k := .i64) (len := xs.length) Try.underlying23 tycells64 hk' (by omega)
        have hln := fun env t off => loadA_aptr (P := Try.prog) (env := env) (t := t) (off := off) hgi hrow
        have hst := fun env defs par => store_row (P := Try.prog) (env := env) (defs := defs) (par := par) (t := 3) (off := 1) (v := .int .i64 (IntKind.i64.wrap (p.at' + d))) (row' := symRow (shiftS d p)) hgi hrow (by simp [writeCells, symRow, shiftS])
        have hset : ((mix (shiftS d) xs k).map symRow).set k (symRow (shiftS d p)) = (mix (shiftS d) xs (k + 1)).map symRow := by rw [← List.map_set, mix_set hp1]
        rw [hset, put_put] at hst
        have g7 : IntKind.i64.wrap ((k : Int) + 1) = (k : Int) + 1 := wrap_succ hk' (by omega)
        generalize (mix (shiftS d) xs k).map symRow = R at *
        simp [hk', hga, hix, hln, symRow, hst, g7]
      · have := SlV.arr (S := S5.put id (.arr 2 ((xs.map (shiftS d)).map symRow))) (es := 2) (g := symRow) (lo := m) (xs := xs.map (shiftS d)) (id := id) (get_put_self harr) hlo (by rw [next_put]; exact hid)
        simpa using this
  subst hL6
  clear hL
  have ha6 : S6.get a = some (.cells [v, w]) := (g56.get a (by omega) (fun hh => by have := hx6 a hh; omega)).trans ha5
  have hb6 : S6.get (a + 1) = some (.cells [.int .i64 0]) := (g56.get (a + 1) (by omega) (fun hh => by have := hx6 _ hh; omega)).trans hb5
  have hv6 : SlV S6 2 partRow S2.next (outF f d).parts v := by
    revert hv5
    generalize (outF f d).parts = o
    intro hv5
    cases hv5 with
    | nil => exact .nil
    | arr h1 h2 h3 => exact .arr ((g56.get _ h3 (fun hh => by have := hx6 _ hh; have := hvm _ _ _ _ rfl; omega)).trans h1) h2 (Nat.lt_of_lt_of_le h3 g56.next)
  have hn6 := g56.next
  obtain ⟨S7, x7, hfz, ha7, g67, hx7⟩ := frz2 ha6 hv6 hw6 hvm (by omega) hm
  have hb7 : S7.get (a + 1) = some (.cells [.int .i64 0]) := (g67.get (a + 1) (by omega) (fun hh => by have := hx7 _ hh; omega)).trans hb6
  have hn7 := g67.next
  obtain ⟨S8, c8, g78⟩ := right_call (n := n + 4) (S := S7) (outF f d) ⟨by simp only [outF, ol_omap, List.length_map]; omega, by simp only [outF, ol_omap, List.length_map]; omega, by omega⟩
  have ha8 := (g78.get a (by omega) (by simp)).trans ha7
  have hb8 := (g78.get (a + 1) (by omega) (by simp)).trans hb7
  have hn8 := g78.next
  have gS : Grew [] S S8 := ((((((g01.trans g12).trans g23).behind g34 (by simp; omega)).behind g45 (fun b hb => by have := hx5 b hb; omega)).behind g56 (fun b hb => by have := hx6 b hb; omega)).behind g67 (fun b hb => by have := hx7 b hb; omega)).trans g78
  generalize hof : outF f d = F at *
  obtain ⟨Fp, Fn⟩ := F
  simp only [fileC] at c8 ⊢
  cases hok2 : rightOk ⟨Fp, Fn⟩ <;> rw [hok2] at c8
  · obtain ⟨b1, b2, b3, b4⟩ := bad S8 _ ha8 rfl hb8
    refine ⟨_, ?_, gS.behind b4 (by simp; omega)⟩
    simp [frzSt, frzOne, hfz, ha7, c8, errPan, b1, b2, b3, takeCells_eq, isAggV, errF, put_self b2, put_self b3]
  · have hq := fun S' => caught_ret (n := n + 9) (S := S') _ (a + 1) 55 [] [.ptr a 0] rfl
    have hself : S8.put a (.cells [sv false 2 partRow Fp, sv false 2 symRow Fn]) = S8 := put_self ha8
    have hself2 : S8.put (a + 1) (.cells [.int .i64 0]) = S8 := put_self hb8
    refine ⟨S8, ?_, gS⟩
    simp [frzSt, frzOne, hfz, ha7, c8, ha8, hb8, hq, hself, hself2, takeCells_eq, isAggV, writeCells, frzA_sv]
end Go.Ab.Seat
/- The program's Of. -/
namespace Go.Ab.Seat
open Go.Proofs Srt
set_option maxRecDepth 100000
set_option maxHeartbeats 4000000
variable {H : Handler} {N : Nat} {S : Sto}
theorem frz_slv1 {X : Type} {S : Sto} {g : X → List AV} {lo : Nat} {o : Option (List X)} {v : AV} (h : SlV S 2 g lo o v) : ∃ S' x, frzA true S v = (sv false 2 g o, S') ∧ Grew x S S' ∧ (∀ a ∈ x, lo ≤ a) ∧ ∀ a ∈ x, ∃ e o' l, v = .rsl a e o' l := by
  cases h with
  | nil => exact ⟨S, [], rfl, Grew.refl _ _, by simp, by simp⟩
  | arr h hlo hid =>
    rename_i xs id
    have := frzA_arr h
    rw [List.length_map] at this
    exact ⟨S.drop id, [id], this, Grew.drop _ (.inl (by simp)), by simpa using hlo, by simp⟩
def pofF (i : ImgV) (ys : List SymV) : FileV := ⟨ofParts i, optL ys⟩
def pofV (i : ImgV) (ys : List SymV) : AV := if rightOk (pofF i ys) then .tup [.agg (fileC (pofF i ys)), .int .i64 0] else errF
theorem of_run {n : Nat} (i : ImgV) (_hbs : (ol i.bytes).length ≤ 2100) (hm80 : (ol i.names).length ≤ 80) (hbig : 6400 < n) (hk : SOK S) :
    ∃ ys S', runFn Try.prog (handler Try.prog ppol (n + 10)) (n + 10) ppol 20 .none [.agg (imgC i)] S = some (.ret (pofV i ys), .none, S') ∧ Grew [] S S' ∧ Sorted (fun x y => namesC x y < 0) (ol i.names) ys := by
  obtain ⟨a, ha⟩ : ∃ a, S.next = a := ⟨_, rfl⟩
  obtain ⟨S1, hS1⟩ : ∃ S1, (S.new (.cells [.nilsl, .nilsl])).new (.cells [.int .i64 0]) = S1 := ⟨_, rfl⟩
  have g01 : Grew [] S S1 := by rw [← hS1]; exact (Grew.new _ _ _ (by simp)).trans (Grew.new _ _ _ (by simp))
  have hn1 : S1.next = a + 2 := by rw [← hS1, ← ha]; rfl
  have ha1 : S1.get a = some (.cells [.nilsl, .nilsl]) := by rw [← hS1, ← ha]; simp
  have hb1 : S1.get (a + 1) = some (.cells [.int .i64 0]) := by rw [← hS1, ← ha]; simp
  -- what is left where it ends in an error
  have bad : ∀ (S' : Sto) (cs : List AV), S'.get a = some (.cells cs) → cs.length = 2 → S'.get (a + 1) = some (.cells [.int .i64 0]) →
      (handler Try.prog ppol (n + 10)).callD 30 [.ptr (a + 1) 0, .fn (.func 54) [] [.ptr a 0]] (.panicking [⟨.iface 29 (.int .i64 310), false⟩]) S' = some (.ret .undef, .panicking [⟨.iface 29 (.int .i64 310), true⟩], (S'.put a (.cells [.nilsl, .nilsl])).put (a + 1) (.cells [.int .i64 310])) ∧
      ((S'.put a (.cells [.nilsl, .nilsl])).put (a + 1) (.cells [.int .i64 310])).get a = some (.cells [.nilsl, .nilsl]) ∧ ((S'.put a (.cells [.nilsl, .nilsl])).put (a + 1) (.cells [.int .i64 310])).get (a + 1) = some (.cells [.int .i64 310]) ∧
      Grew [a, a + 1] S' ((S'.put a (.cells [.nilsl, .nilsl])).put (a + 1) (.cells [.int .i64 310])) := fun S' cs h1 hl h2 => by
    have h2' : (S'.put a (.cells [.nilsl, .nilsl])).get (a + 1) = some (.cells [.int .i64 0]) := by rw [get_put_ne (by omega)]; exact h2
    refine ⟨caught_pan (n := n + 9) (S := S') 54 [.ptr a 0] 310 (clear54_call (n := n + 8) h1 hl) h2', ?_, get_put_self h2', ?_⟩
    · rw [get_put_ne (by omega)]; exact get_put_self h1
    · exact (Grew.put _ _ (.inl (by simp)) (by simp)).trans (Grew.put _ _ (.inl (by simp)) (by simp))
  -- the bytes
  obtain ⟨PV, hPV⟩ : ∃ PV, sv true 2 partRow (ofParts i) = PV := ⟨_, rfl⟩
  have p1 : PV.strip0 = sv false 2 partRow (ofParts i) := by rw [← hPV]; simp
  have p2 : PV.clr = PV := by rw [← hPV]; simp
  have p3 : PV.noLp = PV := by rw [← hPV]; simp
  have p4 : okTop PV = true := by rw [← hPV]; simp
  have p5 : PV.cells = [PV] := by rw [← hPV]; simp
  have p6 : PV.strip = sv false 2 partRow (ofParts i) := by rw [← hPV]; simp
  obtain ⟨S2, hS2⟩ : ∃ S2, S1.put a (.cells [PV, .nilsl]) = S2 := ⟨_, rfl⟩
  have g12 : Grew [a] S1 S2 := by rw [← hS2, ← hPV]; exact Grew.put _ _ (.inl (by simp)) (by rw [good_cells]; simp [same_sv true 2 goodPart])
  have ha2 : S2.get a = some (.cells [PV, .nilsl]) := by rw [← hS2]; exact get_put_self ha1
  have hb2 : S2.get (a + 1) = some (.cells [.int .i64 0]) := by rw [← hS2, get_put_ne (by omega)]; exact hb1
  have hn2 : S2.next = a + 2 := by rw [← hS2]; exact hn1
  have g02 : Grew [] S S2 := g01.behind g12 (by simp; omega)
  -- the names
  obtain ⟨S3, ys, c3, g23, hys⟩ := Sy.ordP_call (S := S2) (n := n + 10) names_ok i.names (by omega) (by omega) (g02.sok hk)
  have hyl : ys.length = (ol i.names).length := hys.perm.length_eq
  have ha3 := (g23.get a (by omega) (by simp)).trans ha2
  have hb3 := (g23.get (a + 1) (by omega) (by simp)).trans hb2
  have hn3 := g23.next
  obtain ⟨S4, hS4⟩ : ∃ S4, S3.put a (.cells [PV, sv false 2 symRow (optL ys)]) = S4 := ⟨_, rfl⟩
  have g34 : Grew [a] S3 S4 := by rw [← hS4, ← hPV]; exact Grew.put _ _ (.inl (by simp)) (by rw [good_cells]; simp [same_sv true 2 goodPart, same_sv false 2 goodSym])
  have ha4 : S4.get a = some (.cells [PV, sv false 2 symRow (optL ys)]) := by rw [← hS4]; exact get_put_self ha3
  have hb4 : S4.get (a + 1) = some (.cells [.int .i64 0]) := by rw [← hS4, get_put_ne (by omega)]; exact hb3
  have hn4 : S4.next = S3.next := by rw [← hS4]; rfl
  have g04 : Grew [] S S4 := (g02.trans g23).behind g34 (by simp; omega)
  obtain ⟨S5, c5, g45⟩ := right_call (n := n + 4) (S := S4) (pofF i ys) ⟨by simp only [pofF, ofParts]; split <;> simp [ol], by simp only [pofF, ol_optL]; omega, by omega⟩
  have ha5 := (g45.get a (by omega) (by simp)).trans ha4
  have hb5 := (g45.get (a + 1) (by omega) (by simp)).trans hb4
  have hn5 := g45.next
  refine ⟨ys, ?_⟩
  rw [runFn_eq Try.func20 (by rfl)]
  unfold pofV
  obtain ⟨F, hF⟩ : ∃ F, pofF i ys = F := ⟨_, rfl⟩
  have hFc : fileC F = [sv false 2 partRow (ofParts i), sv false 2 symRow (optL ys)] := by rw [← hF]; rfl
  rw [hF] at c5 ⊢
  cases hok : rightOk F <;> rw [hok] at c5
  · rw [hFc] at c5
    obtain ⟨b1, b2, b3, b4⟩ := bad S5 _ ha5 rfl hb5
    refine ⟨_, ?_, (g04.trans g45).behind b4 (by simp; omega), hys⟩
    by_cases hz : 0 < (ol i.bytes).length
    · have hq : ofParts i = some [⟨0, i.bytes⟩] := by unfold ofParts; rw [if_pos hz]
      have hPV2 : AV.sl true 2 [[.int .i64 0, sv false 1 byteRow i.bytes]] = PV := by rw [← hPV, hq]; rfl
      simp [Try.f20, imgC, ha, hS1, hz, build45b, buildSliceA, fillRows, writeCells, hPV2, ha1, hS2, c3, ha3, hS4, ha4, p1, p2, p3, p4, p5, p6, c5, errPan, b1, b2, b3, takeCells_eq, isAggV, errF, put_self b2, put_self b3]
    · have hq : ofParts i = none := by unfold ofParts; rw [if_neg hz]
      have hPV2 : PV = .nilsl := by rw [← hPV, hq]; rfl
      have hS12 : S2 = S1 := by rw [← hS2, hPV2]; exact put_self ha1
      subst hS12
      simp [Try.f20, imgC, ha, hS1, hz, writeCells, c3, ha3, hS4, ha4, p1, c5, errPan, b1, b2, b3, takeCells_eq, isAggV, errF, put_self b2, put_self b3]
  · obtain ⟨hsz1, hsz2⟩ := rightOk_sizes hok
    have hpb := rightOk_parts hok
    obtain ⟨v, w, S6, m, c6, g56, hv, hw, hm, hvm⟩ := own_call2 (n := n + 7) (S := S5) F (g45.sok (g04.sok hk)) (by omega) (by omega) (by omega) (fun p hp => by have := pBad_each hpb p hp; omega)
    rw [hFc] at c5 c6 ⊢
    have hFp : F.parts = ofParts i := by rw [← hF]; rfl
    have hFn : F.names = optL ys := by rw [← hF]; rfl
    rw [hFp] at hv
    rw [hFn] at hw
    obtain ⟨v1, v2, v3, v4, v5, v6, v7, v8⟩ := slv2 hv
    obtain ⟨w1, w2, w3, w4, w5, w6, w7, w8⟩ := slv2 hw
    have ha6 := (g56.get a (by omega) (by simp)).trans ha5
    have hb6 := (g56.get (a + 1) (by omega) (by simp)).trans hb5
    have hn6 := g56.next
    obtain ⟨S7, hS7⟩ : ∃ S7, S6.put a (.cells [v, w]) = S7 := ⟨_, rfl⟩
    have g67 : Grew [a] S6 S7 := by rw [← hS7]; exact Grew.put _ _ (.inl (by simp)) (by rw [good_cells]; simp [sameL] at v7 w7 ⊢; exact ⟨v7, w7⟩)
    have ha7 : S7.get a = some (.cells [v, w]) := by rw [← hS7]; exact get_put_self ha6
    have hb7 : S7.get (a + 1) = some (.cells [.int .i64 0]) := by rw [← hS7, get_put_ne (by omega)]; exact hb6
    have hv7 : SlV S7 2 partRow S5.next (ofParts i) v := hv.mono g67 (fun x hx => by simp at hx; omega)
    have hw7 : SlV S7 2 symRow m (optL ys) w := hw.mono g67 (fun x hx => by simp at hx; omega)
    have hn7 : S7.next = S6.next := by rw [← hS7]; rfl
    have hself : S7.put a (.cells [v, w]) = S7 := put_self ha7
    have hself2 : S7.put (a + 1) (.cells [.int .i64 0]) = S7 := put_self hb7
    obtain ⟨S8, x8, e8, g78, hx8, hx8'⟩ := frz_slv1 hv7
    have hw8 : SlV S8 2 symRow m (optL ys) w := hw7.mono g78 (fun b hb => by obtain ⟨e, o', l, he⟩ := hx8' b hb; exact .inl (hvm _ _ _ _ he))
    obtain ⟨S9, x9, e9, g89, hx9, -⟩ := frz_slv1 hw8
    have hb8 := (g78.get (a + 1) (by omega) (fun hh => by have := hx8 _ hh; omega)).trans hb7
    have hn8 := g78.next
    have hb9 := (g89.get (a + 1) (by omega) (fun hh => by have := hx9 _ hh; omega)).trans hb8
    have hself3 : S9.put (a + 1) (.cells [.int .i64 0]) = S9 := put_self hb9
    have hqr := fun S' => caught_ret (n := n + 9) (S := S') _ (a + 1) 54 [] [.ptr a 0] rfl
    have gS : Grew [] S S9 := ((((g04.trans g45).trans g56).behind g67 (by simp; omega)).behind g78 (fun b hb => by have := hx8 b hb; omega)).behind g89 (fun b hb => by have := hx9 b hb; omega)
    refine ⟨S9, ?_, gS, hys⟩
    by_cases hz : 0 < (ol i.bytes).length
    · have hq : ofParts i = some [⟨0, i.bytes⟩] := by unfold ofParts; rw [if_pos hz]
      have hPV2 : AV.sl true 2 [[.int .i64 0, sv false 1 byteRow i.bytes]] = PV := by rw [← hPV, hq]; rfl
      simp [Try.f20, imgC, ha, hS1, hz, build45b, buildSliceA, fillRows, writeCells, hPV2, ha1, hS2, c3, ha3, hS4, ha4, p1, p2, p3, p4, p5, p6, c5, c6, v1, w1, ha5, ha6, hS7, hself2, ha7, hb7, hself, e8, e9, hb9, hself3, hqr, takeCells_eq, isAggV]
    · have hq : ofParts i = none := by unfold ofParts; rw [if_neg hz]
      have hPV2 : PV = .nilsl := by rw [← hPV, hq]; rfl
      have hS12 : S2 = S1 := by rw [← hS2, hPV2]; exact put_self ha1
      subst hS12
      simp [Try.f20, imgC, ha, hS1, hz, writeCells, c3, ha3, hS4, ha4, p1, c5, c6, v1, w1, ha5, ha6, hS7, hself2, ha7, hb7, hself, e8, e9, hb9, hself3, hqr, takeCells_eq, isAggV]
end Go.Ab.Seat
/- The program's Flat. -/
namespace Go.Ab.Seat
open Go.Proofs Srt
set_option maxRecDepth 100000
set_option maxHeartbeats 4000000
variable {H : Handler} {N : Nat} {S : Sto}
theorem app_zeros_sv {o : Option (List UInt8)} {k : Nat} (h : (ol o).length + k < 2 ^ 39) : ∃ o', (∀ st, appendS Try.prog 1 28 3 (sv true 1 byteRow o) (.int .i64 k) st = some (.val (sv true 1 byteRow o') st)) ∧ ol o' = ol o ++ List.replicate k 0 := by
  cases o with
  | some xs => exact ⟨some (xs ++ List.replicate k 0), fun st => app_zeros (by simpa [ol] using h), rfl⟩
  | none =>
    have hm : ∀ st : St, moreA Try.prog st.S 5 3 (.int .i64 k) = some ((List.replicate k (0 : UInt8)).map byteRow) := fun st => by
      unfold moreA
      simp only [Try.underlying3, tyzero5]
      rw [if_pos (by refine ⟨by omega, by omega, by rw [tycells5]; rfl, ?_⟩; rw [tybytes5]; omega)]
      simp [List.map_replicate, zeroRow]
    cases k with
    | zero => exact ⟨none, fun st => app_more Try.underlying28 tyzero5 (by rw [tycells5]; rfl) (hm st) (by simp [appInline, sv]), rfl⟩
    | succ k =>
      refine ⟨some (List.replicate (k + 1) 0), fun st => app_more Try.underlying28 tyzero5 (by rw [tycells5]; rfl) (hm st) ?_, by simp [ol]⟩
      have hb : ¬ bigA Try.prog 5 ((List.replicate (k + 1) (0 : UInt8)).map byteRow).length := not_big _ (by simp; omega)
      rw [sv_none, sv_some]
      rw [List.replicate_succ, List.map_cons] at hb ⊢
      simp only [appInline]
      rw [if_neg hb, tycells5]
theorem app_svB_sv {st : St} {own : Bool} {o b : Option (List UInt8)} (hb : 0 < (ol b).length) (h : (ol o).length + (ol b).length < 2 ^ 40) : appendS Try.prog 1 28 28 (sv true 1 byteRow o) (sv own 1 byteRow b) st = some (.val (sv true 1 byteRow (some (ol o ++ ol b))) st) := by
  cases o with
  | some xs => exact app_svB (by simpa [ol] using h)
  | none =>
    cases b with
    | none => simp [ol] at hb
    | some bs =>
      cases bs with
      | nil => simp [ol] at hb
      | cons c bs =>
        have hbg : ¬ bigA Try.prog 5 ((c :: bs).map byteRow).length := not_big _ (by simp [ol] at h ⊢; omega)
        have hm : moreA Try.prog st.S 5 28 (sv own 1 byteRow (some (c :: bs))) = some ((c :: bs).map byteRow) := by
          rw [more_slice Try.underlying28 (by simp)]
          simp [sv_some, rowsIn, rowsOf]
        refine app_more Try.underlying28 tyzero5 (by rw [tycells5]; rfl) hm ?_
        rw [sv_none, sv_some]
        simp only [ol, Option.getD_none, Option.getD_some, List.nil_append]
        rw [List.map_cons] at hbg ⊢
        simp only [appInline]
        rw [if_neg hbg, tycells5]
def pflatV (f : FileV) (ys : List SymV) : AV := if rightOk f then .tup [.agg [sv false 1 byteRow (flatO (ol f.parts)), sv false 2 symRow (optL ys)], .int .i64 0] else errF
structure FlatInv (f : FileV) (S5 : Sto) (w y : Nat) (r : ALoop) (k : Nat) (S1 : Sto) : Prop where
  g : Grew [w, y] S5 S1
  w : S1.get w = some (.cells [sv true 1 byteRow (flatO ((ol f.parts).take k)), .nilsl])
  y : S1.get y = some (.loop r)
theorem flat_run {n : Nat} (f : FileV) (h : Small f n) (hk : SOK S) (hm80 : (ol f.names).length ≤ 80) :
    ∃ ys S', runFn Try.prog (handler Try.prog ppol (n + 10)) (n + 10) ppol 16 .none [.agg (fileC f)] S = some (.ret (pflatV f ys), .none, S') ∧ Grew [] S S' ∧ Sorted (fun x y => placesC x y < 0) (ol f.names) ys := by
  have hbig := h.big
  obtain ⟨a, ha⟩ : ∃ a, S.next = a := ⟨_, rfl⟩
  obtain ⟨S1, hS1⟩ : ∃ S1, (S.new (.cells [.nilsl, .nilsl])).new (.cells [.int .i64 0]) = S1 := ⟨_, rfl⟩
  have g01 : Grew [] S S1 := by rw [← hS1]; exact (Grew.new _ _ _ (by simp)).trans (Grew.new _ _ _ (by simp))
  have hn1 : S1.next = a + 2 := by rw [← hS1, ← ha]; rfl
  have ha1 : S1.get a = some (.cells [.nilsl, .nilsl]) := by rw [← hS1, ← ha]; simp
  have hb1 : S1.get (a + 1) = some (.cells [.int .i64 0]) := by rw [← hS1, ← ha]; simp
  obtain ⟨S2, c2, g12⟩ := right_call (n := n + 4) (S := S1) f (h.up (by omega))
  have ha2 := (g12.get a (by omega) (by simp)).trans ha1
  have hb2 := (g12.get (a + 1) (by omega) (by simp)).trans hb1
  have hn2 := g12.next
  have g02 := g01.trans g12
  rw [runFn_eq Try.func16 (by rfl)]
  unfold pflatV
  cases hok : rightOk f <;> rw [hok] at c2
  · -- the names are not asked for: any order will do
    obtain ⟨Sx, ys, -, -, hys⟩ := Sy.ordP_call (S := S2) (n := n + 10) places_ok f.names (by omega) (by omega) (g02.sok hk)
    have h2' : (S2.put a (.cells [.nilsl, .nilsl])).get (a + 1) = some (.cells [.int .i64 0]) := by rw [get_put_ne (by omega)]; exact hb2
    have b1 := caught_pan (n := n + 9) (S := S2) 50 [.ptr a 0] 310 (clear50_call (n := n + 8) ha2 rfl) h2'
    have b2 : ((S2.put a (.cells [.nilsl, .nilsl])).put (a + 1) (.cells [.int .i64 310])).get a = some (.cells [.nilsl, .nilsl]) := by rw [get_put_ne (by omega)]; exact get_put_self ha2
    have b3 := get_put_self (o := .cells [.int .i64 310]) h2'
    have b4 : Grew [a, a + 1] S2 ((S2.put a (.cells [.nilsl, .nilsl])).put (a + 1) (.cells [.int .i64 310])) := (Grew.put _ _ (.inl (by simp)) (by simp)).trans (Grew.put _ _ (.inl (by simp)) (by simp))
    refine ⟨ys, _, ?_, g02.behind b4 (by simp; omega), hys⟩
    simp [Try.f16, ha, hS1, c2, errPan, b1, b2, b3, takeCells_eq, isAggV, errF, put_self b2, put_self b3]
  obtain ⟨hsz1, hsz2⟩ := rightOk_sizes hok
  have hpb := rightOk_parts hok
  obtain ⟨v, S5, c3, g25, hc5, hlt5, hv5⟩ := parts_call (n := n + 2) (S := S2) f (h.up (by omega)) (g02.sok hk)
  have ha5 := (g25.get a (by omega) (by simp)).trans ha2
  have hb5 := (g25.get (a + 1) (by omega) (by simp)).trans hb2
  have hn5 := g25.next
  rw [okParts_ok hok] at hv5
  obtain ⟨c, hc⟩ : ∃ c, S2.next = c := ⟨_, rfl⟩
  rw [hc] at c3 hc5 hlt5 hv5 hn5
  simp [Try.f16, ha, hS1, c2, c3]
  generalize hr : loopOf _ _ _ _ _ _ _ = r
  have hra := congrArg ALoop.assign hr
  have hrb := congrArg ALoop.body hr
  have hre := congrArg ALoop.env hr
  have hrf := congrArg ALoop.fn hr
  have hrp := congrArg ALoop.params hr
  have hrs := congrArg ALoop.state hr
  have hrn := congrArg ALoop.pending hr
  simp [loopOf] at hra hrb hre hrf hrp hrs hrn
  clear hr
  obtain ⟨y, hyid⟩ : ∃ y, S5.next + 1 = y := ⟨_, rfl⟩
  obtain ⟨S6, hS6⟩ : ∃ S6, (S5.new .deferred).new (.loop r) = S6 := ⟨_, rfl⟩
  have hg56 : Grew [] S5 S6 := by rw [← hS6]; exact (Grew.new _ _ _ rfl).trans (Grew.new _ _ _ rfl)
  have hn6 : S6.next = S5.next + 2 := by rw [← hS6]; rfl
  have hy6 : S6.get y = some (.loop r) := by rw [← hS6, ← hyid]; simp
  have hd6 : S6.get S5.next = some .deferred := by rw [← hS6]; simp
  have ha6 := (hg56.get a (by omega) (by simp)).trans ha5
  have hb6 := (hg56.get (a + 1) (by omega) (by simp)).trans hb5
  have hc6 := (hg56.get c (by omega) (by simp)).trans hc5
  have hk6 : SOK S6 := hg56.sok (g25.sok (g02.sok hk))
  obtain ⟨S7, e4, hI7⟩ := partsGo_run (n := n + 8) (N := n + 9) (S := S6) (y := y) (FlatInv f S6 a y r) (fun _ => False) hc6 (by omega) (by omega) (fun p hp => by have := pBad_each hpb p hp; omega)
    ⟨Grew.refl _ _, by simpa [flatO, sv_none] using ha6, hy6⟩
    (fun k S' hI => ⟨hI.g.sok hk6, hv5.mono ((hg56.mono' (by simp)).trans hI.g) (fun b hb => by simp only [List.mem_cons, List.not_mem_nil, or_false] at hb; omega)⟩)
    (fun k p S' hI hp => by
      have hpo := pBad_at (x := 0) hpb hp
      have hlen := flatB_len hpb k
      have hlast := lastN_le hpb k
      have hge := hpo.ge
      have hat := hpo.at'
      have hple := hpo.le
      have hpos := hpo.pos
      unfold endN plen at hple
      unfold plen at hpos
      obtain ⟨o, ho⟩ : ∃ o, flatO ((ol f.parts).take k) = o := ⟨_, rfl⟩
      have hoo : ol o = flatB ((ol f.parts).take k) := by rw [← ho, ol_flatO]
      have hol : (ol o).length = lastN 0 ((ol f.parts).take k) := by rw [hoo, hlen]
      have hnext : flatO ((ol f.parts).take (k + 1)) = some (flatStep (ol o) p) := by
        rw [take_snoc hp, hoo, ← flatB_snoc]; unfold flatO; rw [if_neg (by simp)]
      have hwk := hI.w
      rw [ho] at hwk
      obtain ⟨Sb, hSb⟩ : ∃ Sb, S'.put y (.loop { r with state := .busy }) = Sb := ⟨_, rfl⟩
      have hwb : Sb.get a = some (.cells [sv true 1 byteRow o, .nilsl]) := by rw [← hSb, get_put_ne (by omega)]; exact hwk
      have hyb : Sb.get y = some (.loop { r with state := .busy }) := by rw [← hSb]; exact get_put_self hI.y
      have hsub : IntKind.i64.wrap ((atN p : Int) - ((ol o).length : Int)) = ((atN p - (ol o).length : Nat) : Int) := by
        rw [show (atN p : Int) - ((ol o).length : Int) = ((atN p - (ol o).length : Nat) : Int) by omega]; exact Go.IntWalk.i64_in _ (by omega)
      obtain ⟨o', e1, ho'⟩ := app_zeros_sv (o := o) (k := atN p - (ol o).length) (by omega)
      have hol' : (ol o').length = atN p := by rw [ho']; simp; omega
      have e2 := fun st own => app_svB_sv (st := st) (own := own) (o := o') (b := p.bytes) hpos (by omega)
      rw [show ol o' ++ ol p.bytes = flatStep (ol o) p by rw [ho']; simp [flatStep]] at e2
      have hrr : ({ state := .ready, pending := none, fn := r.fn, env := r.env, params := r.params, assign := r.assign, body := r.body, defers := r.defers } : ALoop) = r := by
        obtain ⟨x1, x2, x3, x4, x5, x6, x7, x8⟩ := r
        simp only at hrs hrn
        subst hrs hrn
        rfl
      refine ⟨true, (Sb.put a (.cells [sv true 1 byteRow (some (flatStep (ol o) p)), .nilsl])).put y (.loop r), ?_, fun _ => ?_, fun hf => absurd hf (by simp)⟩
      · rw [call_yield, yield_eq hI.y (by rw [← hrp]; rfl) (by rw [← hrf]; rfl)]
        rw [← hra, ← hre, ← hrf, ← hrp]
        simp
        rw [yBody_normal hI.y hrs.symm, hSb, ← hrb, ← hrf]
        have hne1 : y ≠ a := by omega
        generalize flatStep (ol o) p = R at *
        simp [hwb, get_put_self hwb, hat, hsub, e1, e2, takeCells_eq, writeCells]
        rw [yFin_normal (r := { r with state := .busy }) (by simp [get_put_ne, hne1, hyb])]
        simp [hrr]
      · have hne1 : a ≠ y := by omega
        have gb : Grew [a, y] S' Sb := by rw [← hSb]; exact Grew.put _ _ (.inl (by simp)) rfl
        refine ⟨((hI.g.trans gb).trans (Grew.put _ _ (.inl (by simp)) (by rw [good_cells]; simp [same_sv true 1 goodBytes]))).trans (Grew.put _ _ (.inl (by simp)) rfl), ?_, ?_⟩
        · rw [get_put_ne hne1, get_put_self hwb, hnext]
        · exact get_put_self (o' := .loop { r with state := .busy }) (by rw [get_put_ne (by omega)]; exact hyb))
  obtain hI7 | hI7 := hI7
  rotate_left
  · exact hI7.elim
  have hcall : (handler Try.prog ppol (n + 10)).call (.func 53) [.yld y, .ptr c 0] S6 = some (.ret .undef, S7) := by
    rw [call_func (by rfl), e4]; rfl
  have hrg := fun st defs => rgEnd_ret (st := st) (defs := defs) (v := .undef) hI7.y hrs.symm hrn.symm
  have hw7 := hI7.w
  rw [List.take_of_length_le (Nat.le_refl _)] at hw7
  obtain ⟨B, hB⟩ : ∃ B, flatO (ol f.parts) = B := ⟨_, rfl⟩
  rw [hB] at hw7 ⊢
  obtain ⟨S8, hS8⟩ : ∃ S8, S7.drop y = S8 := ⟨_, rfl⟩
  have hg68 : Grew [a, y] S6 S8 := by rw [← hS8]; exact hI7.g.trans (Grew.drop _ (.inl (by simp)))
  have ha8 : S8.get a = some (.cells [sv true 1 byteRow B, .nilsl]) := by rw [← hS8, get_drop_ne (by omega)]; exact hw7
  have hb8 : S8.get (a + 1) = some (.cells [.int .i64 0]) := (hg68.get (a + 1) (by omega) (by simp; omega)).trans hb6
  have hd8 : S8.get S5.next = some .deferred := (hg68.get S5.next (by omega) (by simp; omega)).trans hd6
  have hn8 := hg68.next
  obtain ⟨S9, ys, c9, g89, hys⟩ := Sy.ordP_call (S := S8) (n := n + 10) places_ok f.names (by omega) (by omega) (hg68.sok hk6)
  have ha9 := (g89.get a (by omega) (by simp)).trans ha8
  have hb9 := (g89.get (a + 1) (by omega) (by simp)).trans hb8
  have hd9 := (g89.get S5.next (by omega) (by simp)).trans hd8
  have hn9 := g89.next
  obtain ⟨SA, hSA⟩ : ∃ SA, S9.put a (.cells [sv true 1 byteRow B, sv false 2 symRow (optL ys)]) = SA := ⟨_, rfl⟩
  have haA : SA.get a = some (.cells [sv true 1 byteRow B, sv false 2 symRow (optL ys)]) := by rw [← hSA]; exact get_put_self ha9
  have gA : Grew [a] S9 SA := by rw [← hSA]; exact Grew.put _ _ (.inl (by simp)) (by rw [good_cells]; simp [same_sv true 1 goodBytes, same_sv false 2 goodSym])
  obtain ⟨SB, hSB⟩ : ∃ SB, SA.put a (.cells [sv false 1 byteRow B, sv false 2 symRow (optL ys)]) = SB := ⟨_, rfl⟩
  have haB : SB.get a = some (.cells [sv false 1 byteRow B, sv false 2 symRow (optL ys)]) := by rw [← hSB]; exact get_put_self haA
  have gB : Grew [a] SA SB := by rw [← hSB]; exact Grew.put _ _ (.inl (by simp)) (by rw [good_cells]; simp [same_sv false 1 goodBytes, same_sv false 2 goodSym])
  have hbB : SB.get (a + 1) = some (.cells [.int .i64 0]) := by rw [← hSB, get_put_ne (by omega), ← hSA, get_put_ne (by omega)]; exact hb9
  have hdB : SB.get S5.next = some .deferred := by rw [← hSB, get_put_ne (by omega), ← hSA, get_put_ne (by omega)]; exact hd9
  have hself1 : SB.put (a + 1) (.cells [.int .i64 0]) = SB := put_self hbB
  obtain ⟨SC, hSC⟩ : ∃ SC, SB.drop S5.next = SC := ⟨_, rfl⟩
  have haC : SC.get a = some (.cells [sv false 1 byteRow B, sv false 2 symRow (optL ys)]) := by rw [← hSC, get_drop_ne (by omega)]; exact haB
  have hbC : SC.get (a + 1) = some (.cells [.int .i64 0]) := by rw [← hSC, get_drop_ne (by omega)]; exact hbB
  have gC : Grew [S5.next] SB SC := by rw [← hSC]; exact Grew.drop _ (.inl (by simp))
  have hself2 : SC.put a (.cells [sv false 1 byteRow B, sv false 2 symRow (optL ys)]) = SC := put_self haC
  have hself3 : SC.put (a + 1) (.cells [.int .i64 0]) = SC := put_self hbC
  have hq := fun S' => caught_ret (n := n + 9) (S := S') _ (a + 1) 50 [] [.ptr a 0] rfl
  have gS : Grew [] S SC := (((((((g02.trans g25).trans hg56).behind hg68 (by simp; omega)).trans g89).behind gA (by simp; omega)).behind gB (by simp; omega)).behind gC (by simp; omega))
  refine ⟨ys, SC, ?_, gS, hys⟩
  simp [hyid, hS6, hcall, hrg, hS8, c9, ha9, hSA, haA, hSB, hbB, hself1, hdB, hSC, hq, haC, hbC, hself2, hself3, takeCells_eq, isAggV, writeCells]
end Go.Ab.Seat
/- Plain laws: two ways to put names in order. -/
namespace Go.Ab.Seat
open Go.Proofs Srt
set_option maxRecDepth 100000
section
variable {X : Type}
theorem putIn_perm (p : X → Bool) (ys : List X) (x : X) : (putIn p ys x).Perm (x :: ys) := by
  unfold putIn
  refine List.perm_middle.trans ?_
  rw [List.take_append_drop]
theorem foldl_perm (q : X → X → Bool) : ∀ (xs ys : List X), (xs.foldl (fun ys x => putIn (fun y => q y x) ys x) ys).Perm (ys ++ xs)
  | [], ys => by simp
  | x :: xs, ys => by
    rw [List.foldl_cons]
    refine (foldl_perm q xs _).trans ?_
    refine ((putIn_perm _ ys x).append_right xs).trans ?_
    exact List.perm_middle.symm
theorem putAll_perm (q : X → X → Bool) (xs : List X) : (putAll q xs).Perm xs := by
  have := foldl_perm q xs []
  simpa [putAll] using this
theorem mem_take_get {ys : List X} {m : Nat} {y : X} (h : y ∈ ys.take m) : ∃ j, j < m ∧ ys[j]? = some y := by
  obtain ⟨j, hj⟩ := List.mem_iff_getElem?.1 h
  rw [List.getElem?_take] at hj
  split at hj
  · rename_i hlt; exact ⟨j, hlt, hj⟩
  · cases hj
/-- What stands behind the place is not ahead. -/
theorem drop_all {lt : X → X → Prop} (w : WO lt) {ys : List X} {x : X} {m : Nat} (hs : ys.Pairwise fun a b => ¬ lt b a) (h : ∀ y, ys[m]? = some y → ¬ lt y x) : ∀ b ∈ ys.drop m, ¬ lt b x := by
  intro b hb
  by_cases hm : m < ys.length
  · rw [List.drop_eq_getElem_cons hm] at hb
    have h0 := h ys[m] (List.getElem?_eq_getElem hm)
    rcases List.mem_cons.1 hb with rfl | hb
    · exact h0
    · have hs' : (ys.drop m).Pairwise fun a b => ¬ lt b a := hs.sublist (List.drop_sublist _ _)
      rw [List.drop_eq_getElem_cons hm] at hs'
      exact w.nt _ _ _ ((List.pairwise_cons.1 hs').1 b hb) h0
  · rw [List.drop_eq_nil_of_le (by omega)] at hb; cases hb
theorem putIn_sorted {lt : X → X → Prop} (w : WO lt) {p : X → Bool} {ys : List X} {x : X} (hp : ∀ y, p y = true ↔ lt y x) (hs : ys.Pairwise fun a b => ¬ lt b a) : (putIn p ys x).Pairwise fun a b => ¬ lt b a := by
  have h0 : ∀ y, ys[spot p ys]? = some y → ¬ lt y x := fun y hy hl => by
    have := spot_no p hy
    rw [(hp y).2 hl] at this; cases this
  have hd := drop_all w hs h0
  have ht : ∀ a ∈ ys.take (spot p ys), lt a x := fun a ha => by
    obtain ⟨j, hj, hy⟩ := mem_take_get ha
    exact (hp a).1 (spot_yes p hj hy)
  unfold putIn
  rw [List.pairwise_append]
  refine ⟨hs.sublist (List.take_sublist _ _), List.pairwise_cons.2 ⟨hd, hs.sublist (List.drop_sublist _ _)⟩, fun a ha b hb => ?_⟩
  rcases List.mem_cons.1 hb with rfl | hb
  · exact fun h => w.irr _ (w.tr _ _ _ (ht a ha) h)
  · have := hs
    rw [← List.take_append_drop (spot p ys) ys, List.pairwise_append] at this
    exact this.2.2 a ha b hb
theorem putAll_sorted {lt : X → X → Prop} (w : WO lt) {q : X → X → Bool} (hq : ∀ y x, q y x = true ↔ lt y x) (xs : List X) : (putAll q xs).Pairwise fun a b => ¬ lt b a := by
  unfold putAll
  have : ∀ (xs ys : List X), (ys.Pairwise fun a b => ¬ lt b a) → (xs.foldl (fun ys x => putIn (fun y => q y x) ys x) ys).Pairwise fun a b => ¬ lt b a := by
    intro xs
    induction xs with
    | nil => intro ys h; exact h
    | cons x xs ih => intro ys h; rw [List.foldl_cons]; exact ih _ (putIn_sorted w (fun y => hq y x) h)
  exact this xs [] (by simp)
end
/-! ### Names that may be are in order, and each is there once -/
theorem names_strict {l : List SymV} (h : namesOk l = true) : l.Pairwise fun a b => bl a.name b.name := by
  have step : ∀ k a b, l[k]? = some a → l[k + 1]? = some b → bl a.name b.name := fun k a b ha hb => by
    unfold namesOk at h
    rw [List.all_eq_true] at h
    have := h (k + 1) (List.mem_range.2 (List.getElem?_eq_some_iff.1 hb).1)
    unfold nmAt at this
    rw [hb] at this
    simp only [Nat.add_sub_cancel, ha, Bool.and_eq_true, Bool.or_eq_true, decide_eq_true_eq] at this
    rcases this.2 with h | h
    · omega
    · exact h
  have far : ∀ d k a b, l[k]? = some a → l[k + d + 1]? = some b → bl a.name b.name := by
    intro d
    induction d with
    | zero => intro k a b ha hb; exact step k a b ha hb
    | succ d ih =>
      intro k a b ha hb
      obtain ⟨c, hc⟩ : ∃ c, l[k + d + 1]? = some c := ⟨_, List.getElem?_eq_getElem (by have := (List.getElem?_eq_some_iff.1 hb).1; omega)⟩
      exact bl_tr _ _ _ (ih k a c ha hc) (step (k + d + 1) c b hc (by rw [← hb]; congr 1))
  rw [List.pairwise_iff_getElem]
  intro i j hi hj hij
  exact far (j - i - 1) i _ _ (List.getElem?_eq_getElem hi) (by rw [show i + (j - i - 1) + 1 = j by omega]; exact List.getElem?_eq_getElem hj)
theorem strict_inj : ∀ {l : List SymV}, (l.Pairwise fun a b => bl a.name b.name) → ∀ a ∈ l, ∀ b ∈ l, a.name = b.name → a = b
  | [], _, a, ha, _, _, _ => by cases ha
  | c :: l, h, a, ha, b, hb, e => by
    rw [List.pairwise_cons] at h
    have irr : ∀ s : List UInt8, ¬ bl s s := fun s h => by unfold bl at h; rw [bl_irr] at h; cases h
    rcases List.mem_cons.1 ha with ha' | ha' <;> rcases List.mem_cons.1 hb with hb' | hb'
    · rw [ha', hb']
    · have := h.1 b hb'
      rw [← ha', e] at this
      exact absurd this (irr _)
    · have := h.1 a ha'
      rw [← hb', e] at this
      exact absurd this (irr _)
    · exact strict_inj h.2 a ha' b hb' e
theorem same_order {ys zs : List SymV} (p : ys.Perm zs) (hy : ys.Pairwise fun a b => ¬ bl b.name a.name) (hz : zs.Pairwise fun a b => ¬ bl b.name a.name) (hs : zs.Pairwise fun a b => bl a.name b.name) : ys = zs :=
  List.Perm.eq_of_pairwise (le := fun a b : SymV => ¬ bl b.name a.name) (fun a b ha hb h1 h2 => by
    have hname : a.name = b.name := by
      rcases bl_tri a.name b.name with h | h | h
      · exact absurd h h2
      · exact h
      · exact absurd h h1
    exact strict_inj hs a (by first | exact ha | exact p.mem_iff.1 ha) b (by first | exact hb | exact p.mem_iff.1 hb) hname) hy hz p
theorem namesWO : WO fun x y : SymV => bl x.name y.name := bl_wo.on _
theorem of_same {xs ys : List SymV} (h : Sorted (fun x y => namesC x y < 0) xs ys) : (namesOk ys = true ∨ namesOk (putAll before xs) = true) → ys = putAll before xs := by
  have hk : (fun x y : SymV => namesC x y < 0) = fun x y => bl x.name y.name := by funext x y; exact propext (cmpB_neg _ _)
  rw [hk] at h
  have hy := h.le namesWO
  have hz := putAll_sorted (q := before) namesWO (fun _ _ => Iff.rfl) xs
  have hp : ys.Perm (putAll before xs) := h.perm.trans (putAll_perm before xs).symm
  rintro (h1 | h1)
  · exact (same_order hp.symm hz hy (names_strict h1)).symm
  · exact same_order hp hy hz (names_strict h1)
theorem placesWO : WO fun x y : SymV => x.at' < y.at' := int_wo.on _
theorem flat_sorted (xs : List SymV) : Sorted (fun x y : SymV => x.at' < y.at') xs (putAll upto xs) := by
  have : ∀ k, Sorted (fun x y : SymV => x.at' < y.at') (xs.take k) (putAll upto (xs.take k)) := by
    intro k
    induction k with
    | zero => exact Sorted.nil _
    | succ k ih =>
      by_cases hk : k < xs.length
      · obtain ⟨x, hx⟩ : ∃ x, xs[k]? = some x := ⟨_, List.getElem?_eq_getElem hk⟩
        rw [take_snoc hx, putAll_snoc]
        have hle := ih.le placesWO
        generalize putAll upto (xs.take k) = ys at *
        refine ih.insert (List.take_append_drop _ _).symm (fun a ha => ?_) (fun a ha => ?_)
        · obtain ⟨j, hj, hy⟩ := mem_take_get ha
          have := of_decide_eq_true (spot_yes (fun y => upto y x) hj hy)
          omega
        · have h0 : ∀ y, ys[spot (fun y => upto y x) ys]? = some y → x.at' < y.at' := fun y hy => by
            have := of_decide_eq_false (spot_no (fun y => upto y x) hy)
            omega
          by_cases hm : spot (fun y => upto y x) ys < ys.length
          · have h1 := h0 _ (List.getElem?_eq_getElem hm)
            have hs' : (ys.drop (spot (fun y => upto y x) ys)).Pairwise fun a b => ¬ b.at' < a.at' := hle.sublist (List.drop_sublist _ _)
            rw [List.drop_eq_getElem_cons hm] at hs' ha
            rcases List.mem_cons.1 ha with rfl | ha
            · exact h1
            · have := (List.pairwise_cons.1 hs').1 a ha
              omega
          · rw [List.drop_eq_nil_of_le (by omega)] at ha; cases ha
      · rw [List.take_of_length_le (by omega)] at ih ⊢
        exact ih
  have h := this xs.length
  rwa [List.take_of_length_le (Nat.le_refl _)] at h
theorem flat_same {xs ys : List SymV} (h : Sorted (fun x y => placesC x y < 0) xs ys) : ys = putAll upto xs := by
  have hk : (fun x y : SymV => placesC x y < 0) = fun x y => x.at' < y.at' := by funext x y; exact propext (cmpI_neg _ _)
  rw [hk] at h
  exact h.uniq placesWO (flat_sorted xs)
theorem rightOk_ol {f g : FileV} (h1 : ol f.parts = ol g.parts) (h2 : ol f.names = ol g.names) : rightOk f = rightOk g := by
  unfold rightOk sizesOk; rw [h1, h2]
end Go.Ab.Seat
/- The law ImageFlats. -/
namespace Go.Ab.Seat
open Go.Proofs Srt
set_option maxRecDepth 100000
set_option maxHeartbeats 4000000
variable {H : Handler} {N : Nat} {S : Sto}
theorem of_callN (i : ImgV) (hbs : (ol i.bytes).length ≤ 2100) (hm : (ol i.names).length ≤ 80) (hN : 7000 < N) (hk : SOK S) :
    ∃ ys S', (handler Try.prog ppol N).call (.func 20) [.agg (imgC i)] S = some (.ret (pofV i ys), S') ∧ Grew [] S S' ∧ Sorted (fun x y => namesC x y < 0) (ol i.names) ys := by
  obtain ⟨n, rfl⟩ : ∃ n, N = n + 11 := ⟨N - 11, by omega⟩
  obtain ⟨ys, S', e, h⟩ := of_run (n := n) (S := S) i hbs hm (by omega) hk
  exact ⟨ys, S', by rw [call_func (by rfl), e]; rfl, h⟩
theorem flat_callN (f : FileV) (h : Small f 6500) (hm : (ol f.names).length ≤ 80) (hN : 7000 < N) (hk : SOK S) :
    ∃ ys S', (handler Try.prog ppol N).call (.func 16) [.agg (fileC f)] S = some (.ret (pflatV f ys), S') ∧ Grew [] S S' ∧ Sorted (fun x y => placesC x y < 0) (ol f.names) ys := by
  obtain ⟨n, rfl⟩ : ∃ n, N = n + 11 := ⟨N - 11, by omega⟩
  obtain ⟨ys, S', e, h⟩ := flat_run (n := n) (S := S) f (h.up (by omega)) hk hm
  exact ⟨ys, S', by rw [call_func (by rfl), e]; rfl, h⟩
theorem move_callN (f : FileV) (d : Int) (h : Small f 6500) (hp : (ol f.parts).length ≤ 80) (hm : (ol f.names).length ≤ 80) (hN : 7000 < N) (hk : SOK S) :
    ∃ S', (handler Try.prog ppol N).call (.func 23) [.agg (fileC f), .int .i64 d] S = some (.ret (pmoveV f d), S') ∧ Grew [] S S' := by
  obtain ⟨n, rfl⟩ : ∃ n, N = n + 11 := ⟨N - 11, by omega⟩
  obtain ⟨S', e, h⟩ := move_run (n := n) (S := S) f d (h.up (by omega)) hk hp hm
  exact ⟨S', by rw [call_func (by rfl), e]; rfl, h⟩
theorem refOf_callN (i : ImgV) (hm : (ol i.names).length ≤ 80) (hN : 7000 < N) : (handler Try.prog ppol N).call (.func 21) [.agg (imgC i)] S = some (.ret (ofV i), S) := by
  obtain ⟨n, rfl⟩ : ∃ n, N = n + 1 := ⟨N - 1, by omega⟩
  rw [call_func (by rfl), refOf_run i hm (by omega) (by omega)]; rfl
theorem refFlat_callN (f : FileV) (h : Small f 6500) (hN : 7000 < N) : (handler Try.prog ppol N).call (.func 22) [.agg (fileC f)] S = some (.ret (flatV f), S) := by
  obtain ⟨n, rfl⟩ : ∃ n, N = n + 1 := ⟨N - 1, by omega⟩
  rw [call_func (by rfl), refFlat_run f h (by omega) (by omega)]; rfl
theorem refMove_callN (f : FileV) (d : Int) (h : Small f 6500) (hp : (ol f.parts).length ≤ 80) (hm : (ol f.names).length ≤ 80) (hN : 7000 < N) : (handler Try.prog ppol N).call (.func 24) [.agg (fileC f), .int .i64 d] S = some (.ret (moveV f d), S) := by
  obtain ⟨n, rfl⟩ : ∃ n, N = n + 1 := ⟨N - 1, by omega⟩
  rw [call_func (by rfl), refMove_run f d h (by omega) hp hm (by omega)]; rfl
theorem imgSame_callN (a b : ImgV) (hb : ol a.bytes = ol b.bytes) (hn : ol a.names = ol b.names) (h2 : (ol a.names).length < 2 ^ 13) (hN : 2 ^ 20 < N) : (handler Try.prog ppol N).call (.func 25) [.agg (imgC a), .agg (imgC b)] S = some (.ret (.bool true), S) := by
  obtain ⟨n, rfl⟩ : ∃ n, N = n + 1 := ⟨N - 1, by omega⟩
  rw [call_func (by rfl), imgSame_run (n := n) (N := n) a b hb hn (by omega) (by omega)]; rfl
def noneF : FileV := ⟨none, none⟩
theorem SameF.of {a b : FileV} (h1 : ol a.parts = ol b.parts) (h2 : ol a.names = ol b.names) : SameF a b :=
  ⟨by rw [h1], fun k p q hp hq => by rw [h1, hq] at hp; cases hp; exact ⟨rfl, rfl⟩, h2⟩
/-- What both tell: files, and the same error. -/
structure Both (v w : AV) where
  a : FileV
  b : FileV
  e : Int
  hv : v = .tup [.agg (fileC a), .int .i64 e]
  hw : w = .tup [.agg (fileC b), .int .i64 e]
  h1 : ol a.parts = ol b.parts
  h2 : ol a.names = ol b.names
  l1 : (ol a.parts).length < 2 ^ 13
  l2 : (ol a.names).length < 2 ^ 13
theorem of_both {i : ImgV} {ys : List SymV} (hm : (ol i.names).length ≤ 80) (h : Sorted (fun x y => namesC x y < 0) (ol i.names) ys) : Nonempty (Both (pofV i ys) (ofV i)) := by
  have hl : ys.length = (ol i.names).length := h.perm.length_eq
  have he : rightOk (pofF i ys) = true ∨ rightOk (ofF i) = true → ys = putAll before (ol i.names) := fun hh => of_same h (by
    rcases hh with hh | hh
    · exact .inl (by have := rightOk_names hh; simpa [pofF, ol_optL] using this)
    · exact .inr (by have := rightOk_names hh; simpa [ofF, ol_optL] using this))
  have hp : (ol (ofParts i)).length < 2 ^ 13 := by unfold ofParts; split <;> simp [ol]
  by_cases h1 : rightOk (pofF i ys) = true
  · have hy := he (.inl h1)
    have hF : pofF i ys = ofF i := by unfold pofF ofF; rw [hy]
    unfold pofV ofV
    rw [hF] at h1 ⊢
    rw [if_pos h1, if_pos h1]
    exact ⟨⟨ofF i, ofF i, 0, rfl, rfl, rfl, rfl, hp, by simp only [ofF, ol_optL, putAll_len]; omega⟩⟩
  · by_cases h2 : rightOk (ofF i) = true
    · have hy := he (.inr h2)
      have hF : pofF i ys = ofF i := by unfold pofF ofF; rw [hy]
      exact absurd (hF ▸ h2) h1
    · unfold pofV ofV errF
      rw [if_neg h1, if_neg h2]
      exact ⟨⟨noneF, noneF, 310, rfl, rfl, rfl, rfl, by simp [noneF, ol], by simp [noneF, ol]⟩⟩
theorem move_both {f : FileV} {d : Int} (hp : (ol f.parts).length ≤ 80) (hm : (ol f.names).length ≤ 80) : Nonempty (Both (pmoveV f d) (moveV f d)) := by
  have e1 : ol (outF f d).parts = ol (moveF f d).parts := by simp only [outF, moveF, ol_omap, ol_optL]
  have e2 : ol (outF f d).names = ol (moveF f d).names := by simp only [outF, moveF, ol_omap, ol_optL]
  have he : pmoveOk f d = moveOk f d := by unfold pmoveOk moveOk; rw [rightOk_ol e1 e2]
  unfold pmoveV moveV errF
  rw [he]
  cases moveOk f d with
  | false => exact ⟨⟨noneF, noneF, 310, rfl, rfl, rfl, rfl, by simp [noneF, ol], by simp [noneF, ol]⟩⟩
  | true => exact ⟨⟨outF f d, moveF f d, 0, rfl, rfl, e1, e2, by simp only [outF, ol_omap, List.length_map]; omega, by simp only [outF, ol_omap, List.length_map]; omega⟩⟩
theorem flats_run (i : ImgV) (f : FileV) (d : Int) (hm : 2 ^ 20 + 200 < N) (hk : SOK S) :
    ∃ S', runFn Try.prog (handler Try.prog ppol N) N ppol 6 .none [.agg (imgC i), .agg (fileC f), .int .i64 d] S = some (.ret (.bool true), .none, S') := by
  have cw := fun S => works_call (N := N) (S := S) (by omega)
  have cn := fun S e => num_call (N := N) (S := S) e (by omega)
  have cf := few_call (N := N) (S := S) f (by omega)
  rw [runFn_eq Try.func6 (by rfl)]
  cases hfew : fewOf f <;> rw [hfew] at cf
  · refine ⟨S, ?_⟩
    simp [Try.f6, imgC, cf, cw]
  by_cases b1 : (2100 : Int) < (ol i.bytes).length
  · refine ⟨S, ?_⟩
    simp [Try.f6, imgC, cf, cw, b1]
  by_cases b2 : (80 : Int) < (ol i.names).length
  · refine ⟨S, ?_⟩
    simp [Try.f6, imgC, cf, cw, b1, b2]
  have hsm := few_small (n := 6500) hfew (by omega)
  obtain ⟨hf1, hf2⟩ : (ol f.parts).length ≤ 80 ∧ (ol f.names).length ≤ 80 := by
    unfold fewOf at hfew
    simp only [Bool.and_eq_true, decide_eq_true_eq] at hfew
    exact ⟨hfew.1.1.2, hfew.1.2⟩
  obtain ⟨ys, S1, c20, hg1, hys⟩ := of_callN (N := N) (S := S) i (by omega) (by omega) (by omega) hk
  have hk1 := hg1.sok hk
  have c21 := refOf_callN (N := N) (S := S1) i (by omega) (by omega)
  obtain ⟨zs, S2, c16, hg2, hzs⟩ := flat_callN (N := N) (S := S1) f hsm hf2 (by omega) hk1
  have hk2 := hg2.sok hk1
  have c22 := refFlat_callN (N := N) (S := S2) f hsm (by omega)
  obtain ⟨S3, c23, hg3⟩ := move_callN (N := N) (S := S2) f d hsm hf1 hf2 (by omega) hk2
  have hk3 := hg3.sok hk2
  have c24 := refMove_callN (N := N) (S := S3) f d hsm hf1 hf2 (by omega)
  obtain ⟨⟨A, A', ea, ha, ha', a1, a2, a3, a4⟩⟩ := of_both (by omega) hys
  obtain ⟨⟨M, M', em, hM, hM', m1, m2, m3, m4⟩⟩ := move_both (f := f) (d := d) hf1 hf2
  have cs1 := refSame_callN (N := N) (S := S3) A A' (SameF.of a1 a2) a3 a4 (by omega) hk3
  have cs2 := refSame_callN (N := N) (S := S3) M M' (SameF.of m1 m2) m3 m4 (by omega) hk3
  have hfl : pflatV f zs = flatV f := by unfold pflatV flatV errF; rw [flat_same hzs]
  obtain ⟨B, eb, hB, hBl⟩ : ∃ (B : ImgV) (eb : Int), flatV f = .tup [.agg (imgC B), .int .i64 eb] ∧ (ol B.names).length < 2 ^ 13 := by
    unfold flatV
    cases rightOk f with
    | false => exact ⟨⟨none, none⟩, 310, rfl, by simp [ol]⟩
    | true => exact ⟨⟨flatO (ol f.parts), optL (putAll upto (ol f.names))⟩, 0, rfl, by simp only [ol_optL, putAll_len]; omega⟩
  have cs3 := imgSame_callN (N := N) (S := S3) B B rfl rfl hBl (by omega)
  rw [ha] at c20
  rw [ha'] at c21
  rw [hfl, hB] at c16
  rw [hB] at c22
  rw [hM] at c23
  rw [hM'] at c24
  simp only [imgC] at c16 c22 cs3
  simp only [fileC] at c20 c21 c23 c24 cs1 cs2
  simp only [imgC] at c20 c21
  simp only [fileC] at c16 c22 c23 c24 cf
  refine ⟨S3, ?_⟩
  simp [Try.f6, imgC, fileC, cf, cw, b1, b2, c20, c21, c16, c22, c23, c24, cs1, cs2, cs3, cn, writeCells]
end Go.Ab.Seat
