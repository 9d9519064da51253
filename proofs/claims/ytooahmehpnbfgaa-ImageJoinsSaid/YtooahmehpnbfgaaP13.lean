/- Joining image files in the program answers as joining them in the document does, whatever the two files (pomanderlaw21.ImageJoins). No conditions. -/
import Derived.Test.YtooahmehpnbfgaaP12
namespace Go.Ab.Seat.Sy
open Go.Proofs Srt Go.Ab.Seat
set_option maxRecDepth 100000
set_option maxHeartbeats 40000000
variable {H : Handler} {N : Nat} {S : Sto}
theorem symP {n id g K : Nat} {c : SymV → SymV → Int} (hc : CmpP g K c) (hn : n < 2 ^ 28) : ∀ (w a m b : Nat) (d : DP) (S : Sto) (k : Nat), b - a ≤ w → a < m → m < b → b ≤ n → K + w + 2 * n + 10 ≤ k →
  SortedOn (lexC c) d a m → SortedOn (lexC c) d m b → PL d a m b → S.get id = some (arrD n d) → SOK S → ∃ d', SymC n id g c k a m b d S d'
 | 0, a, m, b, _, _, _, hw, h1, h2, _, _, _, _, _, _, _ => by omega
 | w + 1, a, m, b, d, S, k, hw, h1, h2, hb, hk, s1, s2, hp, hS, hK => by
  obtain ⟨k', rfl⟩ : ∃ k', k = k' + 1 := ⟨k - 1, by omega⟩
  have fin : ∀ d', Perm a b d d' → SortedOn (lexC c) d' a b → runFn Try.prog (handler Try.prog ppol k') k' ppol 107 .none [.rsl id 2 0 n, .int .i64 a, .int .i64 m, .int .i64 b, .fn (.func g) [] []] S = some (.ret .undef, .none, S.put id (arrD n d')) → SymC n id g c (k' + 1) a m b d S d' := fun d' p s h => ⟨p, s, by rw [call_func (by rfl), h]; rfl⟩
  by_cases e1 : m = a + 1
  ·subst e1
   obtain ⟨d', p, s, h⟩ := symP_left (k' := k') (N := k') hc (by omega) a b d (by omega) (by omega) hb (by omega) s2 hp hS hK
   exact ⟨d', fin d' p s h⟩
  ·by_cases e2 : b = m + 1
   ·subst e2
    obtain ⟨d', p, s, h⟩ := symP_right (k' := k') (N := k') hc (by omega) a m d (by omega) (by omega) hb (by omega) s1 hp hS hK
    exact ⟨d', fin d' p s h⟩
   ·have ih : ∀ a' m' b' (d1 : DP) (S1 : Sto), b' - a' < b - a → a' < m' → m' < b' → b' ≤ n → SortedOn (lexC c) d1 a' m' → SortedOn (lexC c) d1 m' b' → PL d1 a' m' b' → S1.get id = some (arrD n d1) → SOK S1 → ∃ d', SymC n id g c k' a' m' b' d1 S1 d' :=
     fun a' m' b' d1 S1 q1 q2 q3 q4 q5 q6 q7 q8 q9 => symP hc hn w a' m' b' d1 S1 k' (by omega) q2 q3 q4 (by omega) q5 q6 q7 q8 q9
    by_cases hm : (a + b) / 2 < m
    ·obtain ⟨d', p, s, h⟩ := symP_main1 (k' := k') (N := k') hc (by omega) a m b d hn (by omega) (by omega) hb (by omega) (by omega) s1 s2 hp hS hK _ rfl hm ih
     exact ⟨d', fin d' p s h⟩
    ·obtain ⟨d', p, s, h⟩ := symP_main2 (k' := k') (N := k') hc (by omega) a m b d hn (by omega) (by omega) hb (by omega) (by omega) s1 s2 hp hS hK _ rfl (by omega) ih
     exact ⟨d', fin d' p s h⟩
structure St1 (c : SymV → SymV → Int) (n : Nat) (d0 : DP) where
 k : Nat
 d : DP
 kn : 20 * k ≤ n
 pm : Perm 0 n d0 d
 so : ∀ j, j < k → SortedOn (lexC c) d (20 * j) (20 * j + 20)
 qb : Qb 20 n d 0
 fa : ∀ q, 20 * k ≤ q → d q = d0 q
def St1E (S : Sto) (id n : Nat) (g : FuncId) {c : SymV → SymV → Int} {d0 : DP} (x : St1 c n d0) : St :=
 { env := envOf 63 [(0, .rsl id 2 0 n), (1, .int .i64 n), (2, .fn (.func g) [] []), (6, .int .i64 20), (7, .int .i64 (20 * x.k : Nat)), (8, .int .i64 (20 * x.k + 20 : Nat))], defs := [], par := .none, S := S.put id (arrD n x.d) }
structure St2 (c : SymV → SymV → Int) (n : Nat) (d0 : DP) where
 w : Nat
 d : DP
 x7 : AV
 x8 : AV
 w20 : 20 ≤ w
 wn : w ≤ 2 * n + 20
 pm : Perm 0 n d0 d
 so : ∀ j, SortedOn (lexC c) d (w * j) (min (w * j + w) n)
 qb : Qb w n d 0
def St2E (S : Sto) (id n : Nat) (g : FuncId) {c : SymV → SymV → Int} {d0 : DP} (x : St2 c n d0) : St :=
 { env := envOf 63 [(0, .rsl id 2 0 n), (1, .int .i64 n), (2, .fn (.func g) [] []), (6, .int .i64 x.w), (7, x.x7), (8, x.x8)], defs := [], par := .none, S := S.put id (arrD n x.d) }
structure St3 (c : SymV → SymV → Int) (n : Nat) (d0 : DP) (w : Nat) where
 k : Nat
 d : DP
 kn : 2 * w * k ≤ n
 pm : Perm 0 n d0 d
 so1 : ∀ j, j < k → SortedOn (lexC c) d (2 * w * j) (2 * w * j + 2 * w)
 so2 : ∀ j, 2 * k ≤ j → SortedOn (lexC c) d (w * j) (min (w * j + w) n)
 qb1 : Qb w n d (2 * w * k)
 qb2 : Qb (2 * w) n d 0
def St3E (S : Sto) (id n : Nat) (g : FuncId) (w : Nat) {c : SymV → SymV → Int} {d0 : DP} (x : St3 c n d0 w) : St :=
 { env := envOf 63 [(0, .rsl id 2 0 n), (1, .int .i64 n), (2, .fn (.func g) [] []), (6, .int .i64 w), (7, .int .i64 (2 * w * x.k : Nat)), (8, .int .i64 (2 * w * x.k + 2 * w : Nat))], defs := [], par := .none, S := S.put id (arrD n x.d) }
theorem sq1 (w k : Nat) : w * (2 * k) = 2 * w * k := by rw [← Nat.mul_assoc, Nat.mul_comm w 2]
theorem sq2 (w k : Nat) : w * (2 * k + 1) = 2 * w * k + w := by rw [Nat.mul_succ, sq1]
theorem st3_merge {c : SymV → SymV → Int} {n w b : Nat} {d0 : DP} (hw : 20 ≤ w) (x : St3 c n d0 w) {d' : DP} (hb1 : 2 * w * x.k + w < b) (hb2 : b ≤ 2 * w * x.k + 2 * w) (hb3 : b ≤ n) (p : Perm (2 * w * x.k) b x.d d') (s : SortedOn (lexC c) d' (2 * w * x.k) b) :
  Perm 0 n d0 d' ∧ (∀ j, j < x.k → SortedOn (lexC c) d' (2 * w * j) (2 * w * j + 2 * w)) ∧ (∀ j, w * j ≥ b → SortedOn (lexC c) d' (w * j) (min (w * j + w) n)) ∧ (∀ c, b ≤ c → 2 * w * x.k ≤ c → Qb w n d' c) ∧ Qb (2 * w) n d' 0 := by
 refine ⟨x.pm.trans (p.mono (by omega) hb3), fun j hj => ?_, fun j hj => ?_, fun c hc hc2 => ?_, x.qb2.perm (by omega) p hb3 ⟨x.k, Nat.le_refl _, hb2⟩ (.inl (by omega))⟩
 ·refine sorted_far (x.so1 j hj) p (.inl ?_)
  have := Nat.mul_le_mul_left (2 * w) (show j + 1 ≤ x.k by omega)
  rw [Nat.mul_succ] at this
  exact this
 ·have hk : 2 * x.k ≤ j := by
   by_cases h : 2 * x.k ≤ j
   ·exact h
   ·exfalso
    have := Nat.mul_le_mul_left w (show j + 1 ≤ 2 * x.k by omega)
    rw [Nat.mul_succ, sq1] at this
    omega
  exact sorted_far (x.so2 j hk) p (.inr hj)
 ·intro i h1 h2
  rw [p.out (by omega)]
  exact x.qb1 i (by omega) h2
theorem st3_pl {c : SymV → SymV → Int} {n w b : Nat} {d0 : DP} (hw : 20 ≤ w) (x : St3 c n d0 w) (hb2 : b ≤ 2 * w * x.k + 2 * w) (hb3 : b ≤ n) : PL x.d (2 * w * x.k) (2 * w * x.k + w) b := fun i j i1 i2 j1 j2 => by
 refine x.qb1.lt i1 (by omega) ?_ (by omega) (by omega)
 rw [blk_div (k := 2 * x.k) (by omega) (by rw [sq1]; exact i1) (by rw [sq1]; exact i2), blk_div (k := 2 * x.k + 1) (by omega) (by rw [sq2]; exact j1) (by rw [sq2]; omega)]
 omega
theorem stabP_run {n id g K k' : Nat} {c : SymV → SymV → Int} (hc : CmpP g K c) (hk : K + 3 * n + 20 ≤ k') (f : Nat → SymV) (hn : n < 2 ^ 20) (hN : n + n + 30 < N) (hS : S.get id = some (arrP n f)) (hK : SOK S) :
  ∃ d : DP, Perm 0 n (fun i => (f i, i)) d ∧ SortedOn (lexC c) d 0 n ∧ runFn Try.prog (handler Try.prog ppol k') N ppol 103 .none [.rsl id 2 0 n, .int .i64 n, .fn (.func g) [] []] S = some (.ret .undef, .none, S.put id (arrD n d)) := by
 obtain ⟨k2, rfl⟩ : ∃ k2, k' = k2 + 1 := ⟨k' - 1, by omega⟩
 obtain ⟨d0, hd0⟩ : ∃ d0 : DP, (fun i => (f i, i)) = d0 := ⟨_, rfl⟩
 have hS0 : S.get id = some (arrD n d0) := by rw [hS, ← hd0]; rfl
 have hid : ∀ i, (d0 i).2 = i := fun i => by rw [← hd0]
 have hpl : ∀ a b, SortedOn plt d0 a b := fun a b i j _ hij _ => by show (d0 i).2 < (d0 j).2; rw [hid, hid]; exact hij
 have f0 : n < 2 ^ 28 := by omega
 have f2 : K + n + 2 * n + 10 ≤ k2 + 1 := by omega
 rw [hd0, runFn_eq Try.func103 (by rfl)]
 clear hd0
 simp [Try.f103]
 generalize hL : loopN _ _ _ _ = L
 obtain ⟨x, st', rfl, hT⟩ := loop_fam' hL (St1E S id n g (c := c) (d0 := d0)) (fun _ r => ∃ x : St1 c n d0, ¬ (20 * x.k + 20 ≤ n) ∧ r = (.exit 0, { env := envOf 63 [(13, .bool false), (12, .int .i64 n), (11, .int .i64 (20 * x.k + 20 : Nat)), (0, .rsl id 2 0 n), (1, .int .i64 n), (2, .fn (.func g) [] []), (6, .int .i64 20), (7, .int .i64 (20 * x.k : Nat)), (8, .int .i64 (20 * x.k + 20 : Nat))], defs := [], par := .none, S := S.put id (arrD n x.d) })) (fun x => n - x.k)
  ⟨0, d0, by omega, Perm.refl _ _ _, fun _ h => by omega, fun i _ _ => by rw [hid], fun _ _ => rfl⟩ (by show n - 0 < N; omega) (by simp [St1E, put_self hS0]) (fun x => by
  clear hL
  by_cases hb : 20 * x.k + 20 ≤ n
  ·have c1 : ((20 * x.k + 20 : Nat) : Int) ≤ n := by omega
   obtain ⟨d', p, s, hcall⟩ := insP_call (S := S.put id (arrD n x.d)) hc (k' := k2) (by omega) (20 * x.k) (20 * x.k + 20) x.d (by omega) (by omega) hb (by omega) (fun i j i1 hij j1 => by rw [x.fa i i1, x.fa j (by omega)]; exact hpl _ _ i j i1 hij j1) (get_put_self hS0) (hK.put (good_arrD _ _))
   rw [put_put] at hcall
   have w1 : IntKind.i64.wrap (((20 * x.k + 20 : Nat) : Int) + 20) = ((20 * (x.k + 1) + 20 : Nat) : Int) := by rw [show (((20 * x.k + 20 : Nat) : Int) + 20) = ((20 * (x.k + 1) + 20 : Nat) : Int) by omega]; exact Go.IntWalk.i64_in _ (by omega)
   simp [St1E, c1, hcall, w1, -Int.natCast_add, -Int.natCast_mul]
   refine ⟨⟨x.k + 1, d', by omega, x.pm.trans (p.mono (by omega) hb), fun j hj => ?_, x.qb.perm (by omega) p hb ⟨x.k, Nat.le_refl _, Nat.le_refl _⟩ (.inl (by omega)), fun q hq => ?_⟩, ?_, ?_⟩
   ·by_cases e : j = x.k
    ·rw [e]; exact s
    ·exact sorted_far (x.so j (by omega)) p (.inl (by omega))
   ·rw [p.out (by omega)]; exact x.fa q (by omega)
   ·show n - (x.k + 1) < n - x.k; omega
   ·simp [show 20 * (x.k + 1) = 20 * x.k + 20 by omega]
  ·have c1 : ¬ ((20 * x.k + 20 : Nat) : Int) ≤ n := by omega
   simp [St1E, c1, -Int.natCast_add, -Int.natCast_mul]
   exact ⟨x, by omega, by simp⟩)
 clear hL
 obtain ⟨x, hx, he⟩ := hT
 obtain ⟨rfl, rfl⟩ := Prod.mk.inj he
 clear he
 obtain ⟨d1, p1, s1, hcall⟩ := insP_call (S := S.put id (arrD n x.d)) hc (k' := k2) (by omega) (20 * x.k) n x.d (by omega) x.kn (Nat.le_refl _) (by omega) (fun i j i1 hij j1 => by rw [x.fa i i1, x.fa j (by omega)]; exact hpl _ _ i j i1 hij j1) (get_put_self hS0) (hK.put (good_arrD _ _))
 rw [put_put] at hcall
 simp [hcall, -Int.natCast_add, -Int.natCast_mul]
 generalize hL : loopN _ _ _ _ = L
 have so0 : ∀ j, SortedOn (lexC c) d1 (20 * j) (min (20 * j + 20) n) := fun j => by
  by_cases e : j < x.k
  ·exact (sorted_far (x.so j e) p1 (.inl (by omega))).mono (Nat.le_refl _) (by omega)
  ·by_cases e2 : j = x.k
   ·rw [e2]; exact s1.mono (Nat.le_refl _) (by omega)
   ·intro i1 i2 h1 h2 h3; omega
 obtain ⟨y, st', rfl, hT⟩ := loop_fam' hL (St2E S id n g (c := c) (d0 := d0)) (fun _ r => ∃ x : St2 c n d0, ¬ x.w < n ∧ r.1 = .exit 2 ∧ r.2.defs = [] ∧ r.2.par = .none ∧ r.2.S = S.put id (arrD n x.d)) (fun x => n - x.w)
  ⟨20, d1, .int .i64 (20 * x.k : Nat), .int .i64 (20 * x.k + 20 : Nat), Nat.le_refl _, by omega, x.pm.trans (p1.mono (by omega) (Nat.le_refl _)), so0, x.qb.perm (by omega) p1 (Nat.le_refl _) ⟨x.k, Nat.le_refl _, by omega⟩ (.inl (by omega))⟩ (by show n - 20 < N; omega) (by simp [St2E, -Int.natCast_add, -Int.natCast_mul]) (fun y => by
  clear hL
  obtain ⟨w, d, x7, x8, w20, wn, pm, so, qb⟩ := y
  by_cases hw : w < n
  ·have c1 : (w : Int) < n := by omega
   have w2 : IntKind.i64.wrap (2 * (w : Int)) = ((2 * w : Nat) : Int) := by rw [show (2 * (w : Int)) = ((2 * w : Nat) : Int) by omega]; exact Go.IntWalk.i64_in _ (by omega)
   have w3 : IntKind.i64.wrap ((w : Int) * 2) = ((2 * w : Nat) : Int) := by rw [show ((w : Int) * 2) = ((2 * w : Nat) : Int) by omega]; exact Go.IntWalk.i64_in _ (by omega)
   simp [St2E, c1, w2, -Int.natCast_add, -Int.natCast_mul]
   generalize hL2 : loopN _ _ _ _ = L2
   obtain ⟨y2, st2, rfl, hT2⟩ := loop_fam' hL2 (St3E S id n g w (c := c) (d0 := d0)) (fun _ r => ∃ x : St3 c n d0 w, ¬ (2 * w * x.k + 2 * w ≤ n) ∧ r = (.exit 4, { env := envOf 63 [(35, .bool false), (34, .int .i64 n), (33, .int .i64 (2 * w * x.k + 2 * w : Nat)), (0, .rsl id 2 0 n), (1, .int .i64 n), (2, .fn (.func g) [] []), (6, .int .i64 w), (7, .int .i64 (2 * w * x.k : Nat)), (8, .int .i64 (2 * w * x.k + 2 * w : Nat))], defs := [], par := .none, S := S.put id (arrD n x.d) })) (fun x => n - x.k)
    ⟨0, d, by omega, pm, fun _ h => by omega, fun j _ => so j, by simpa using qb, qb.two⟩ (by show n - 0 < N; omega) (by simp [St3E]) (fun x => by
    clear hL2
    by_cases hb : 2 * w * x.k + 2 * w ≤ n
    ·have c2 : ((2 * w * x.k + 2 * w : Nat) : Int) ≤ n := by omega
     have v1 : IntKind.i64.wrap (((2 * w * x.k : Nat) : Int) + w) = ((2 * w * x.k + w : Nat) : Int) := by rw [← Int.natCast_add]; exact Go.IntWalk.i64_in _ (by omega)
     have v2 : IntKind.i64.wrap (((2 * w * x.k + 2 * w : Nat) : Int) + ((2 * w : Nat) : Int)) = ((2 * w * x.k + 2 * w + 2 * w : Nat) : Int) := by rw [← Int.natCast_add]; exact Go.IntWalk.i64_in _ (by omega)
     obtain ⟨d', p, s, hcall⟩ := symP hc (by omega) (n := n) (id := id) (2 * w) (2 * w * x.k) (2 * w * x.k + w) (2 * w * x.k + 2 * w) x.d (S.put id (arrD n x.d)) (k2 + 1) (by omega) (by omega) (by omega) hb (by omega)
      (by have := x.so2 (2 * x.k) (Nat.le_refl _); rw [sq1] at this; exact this.mono (Nat.le_refl _) (by omega)) (by have := x.so2 (2 * x.k + 1) (by omega); rw [sq2] at this; exact this.mono (Nat.le_refl _) (by omega)) (st3_pl w20 x (by omega) hb) (get_put_self hS0) (hK.put (good_arrD _ _))
     rw [put_put] at hcall
     simp [St3E, c2, v1, v2, w2, hcall, -Int.natCast_add, -Int.natCast_mul]
     obtain ⟨m1, m2, m3, m4, m5⟩ := st3_merge w20 x (b := 2 * w * x.k + 2 * w) (by omega) (by omega) hb p s
     have hs : 2 * w * (x.k + 1) = 2 * w * x.k + 2 * w := Nat.mul_succ _ _
     refine ⟨⟨x.k + 1, d', by omega, m1, fun j hj => ?_, fun j hj => ?_, m4 _ (by omega) (by omega), m5⟩, ?_, ?_⟩
     ·by_cases e : j = x.k
      ·rw [e]; exact s
      ·exact m2 j (by omega)
     ·refine m3 j ?_
      have := Nat.mul_le_mul_left w hj
      rw [sq1] at this
      omega
     ·show n - (x.k + 1) < n - x.k
      have := Nat.mul_le_mul_right x.k (show 1 ≤ 2 * w by omega)
      omega
     ·simp [hs]
    ·have c2 : ¬ ((2 * w * x.k + 2 * w : Nat) : Int) ≤ n := by omega
     simp [St3E, c2, -Int.natCast_add, -Int.natCast_mul]
     exact ⟨x, by omega, by simp⟩)
   clear hL2
   obtain ⟨x, hx2, he⟩ := hT2
   obtain ⟨rfl, rfl⟩ := Prod.mk.inj he
   clear he
   have v1 : IntKind.i64.wrap (((2 * w * x.k : Nat) : Int) + w) = ((2 * w * x.k + w : Nat) : Int) := by rw [← Int.natCast_add]; exact Go.IntWalk.i64_in _ (by have := x.kn; omega)
   have hxk := x.kn
   have f1 : 0 < w := by omega
   simp [v1, -Int.natCast_add, -Int.natCast_mul]
   rcases Nat.lt_or_ge (2 * w * x.k + w) n with hm | hm
   ·obtain ⟨d', p, s, hcall⟩ := symP hc f0 (n := n) (id := id) n (2 * w * x.k) (2 * w * x.k + w) n x.d (S.put id (arrD n x.d)) (k2 + 1) (Nat.sub_le _ _) (Nat.lt_add_of_pos_right f1) hm (Nat.le_refl _) f2
     (by have := x.so2 (2 * x.k) (Nat.le_refl _); rw [sq1] at this; exact this.mono (Nat.le_refl _) (by omega)) (by have := x.so2 (2 * x.k + 1) (by omega); rw [sq2] at this; exact this.mono (Nat.le_refl _) (by omega)) (st3_pl w20 x (by omega) (Nat.le_refl _)) (get_put_self hS0) (hK.put (good_arrD _ _))
    rw [put_put] at hcall
    simp [hm, w3, hcall, -Int.natCast_add, -Int.natCast_mul]
    obtain ⟨m1, m2, m3, m4, m5⟩ := st3_merge w20 x (b := n) (by omega) (by omega) (Nat.le_refl _) p s
    refine ⟨⟨2 * w, d', .int .i64 (2 * w * x.k : Nat), .int .i64 (2 * w * x.k + 2 * w : Nat), by omega, by omega, m1, fun j => ?_, m5⟩, ?_, ?_⟩
    rotate_left 1
    ·show n - 2 * w < n - w; omega
    ·simp [St2E, -Int.natCast_add, -Int.natCast_mul]
    ·by_cases e : j < x.k
     ·exact (m2 j e).mono (Nat.le_refl _) (by omega)
     ·by_cases e2 : j = x.k
      ·rw [e2]; exact s.mono (Nat.le_refl _) (by omega)
      ·intro i1 i2 h1 h2 h3
       have := Nat.mul_le_mul_left (2 * w) (show x.k + 1 ≤ j by omega)
       rw [Nat.mul_succ] at this
       omega
   ·have c3 : ¬ 2 * w * x.k + w < n := by omega
    simp [c3, w3, -Int.natCast_add, -Int.natCast_mul]
    refine ⟨⟨2 * w, x.d, .int .i64 (2 * w * x.k : Nat), .int .i64 (2 * w * x.k + 2 * w : Nat), by omega, by omega, x.pm, fun j => ?_, x.qb2⟩, ?_, ?_⟩
    rotate_left 1
    ·show n - 2 * w < n - w; omega
    ·simp [St2E, -Int.natCast_add, -Int.natCast_mul]
    ·by_cases e : j < x.k
     ·exact (x.so1 j e).mono (Nat.le_refl _) (by omega)
     ·by_cases e2 : j = x.k
      ·rw [e2]
       have := x.so2 (2 * x.k) (Nat.le_refl _)
       rw [sq1] at this
       exact this.mono (Nat.le_refl _) (by omega)
      ·intro i1 i2 h1 h2 h3
       have := Nat.mul_le_mul_left (2 * w) (show x.k + 1 ≤ j by omega)
       rw [Nat.mul_succ] at this
       omega
  ·have c1 : ¬ (w : Int) < n := by omega
   simp [St2E, c1, -Int.natCast_add, -Int.natCast_mul]
   exact ⟨⟨w, d, x7, x8, w20, wn, pm, so, qb⟩, by show n ≤ w; omega, rfl⟩)
 clear hL
 obtain ⟨z, hz, t1, t2, t3, t4⟩ := hT
 obtain ⟨env, defs, par, S2⟩ := st'
 simp only at t1 t2 t3 t4
 subst t1 t2 t3 t4
 have hs := z.so 0
 refine ⟨z.d, z.pm, ?_, by simp⟩
 rw [Nat.mul_zero, Nat.zero_add, Nat.min_eq_right (by omega)] at hs
 exact hs
end Go.Ab.Seat.Sy
namespace Go.Ab.Seat.Sy
open Go.Proofs Srt Go.Ab.Seat
set_option maxRecDepth 100000
set_option maxHeartbeats 4000000
variable {H : Handler} {N : Nat} {S : Sto}
structure VlI (Inv : Nat → Sto → Prop) (m : Nat) where
 k : Nat
 S1 : Sto
 hk : k ≤ m
 hI : Inv k S1
def VlE (Inv : Nat → Sto → Prop) (m : Nat) (y : Nat) (v : AV) (i : VlI Inv m) : St := { env := envOf 16 [(0, .yld y), (5, v), (6, .int .i64 m), (7, .int .i64 i.k)], defs := [], par := .none, S := i.S1 }
theorem valsP_run {n y c : Nat} {o : Option (List SymV)} (Inv : Nat → Sto → Prop) (hc : S.get c = some (.cells [sv false 2 symRow o])) (hm : (ol o).length < 2 ^ 30) (hN : (ol o).length < N) (h0 : Inv 0 S)
  (hy : ∀ k p S1, Inv k S1 → (ol o)[k]? = some p → ∃ S2, (handler Try.prog ppol n).call (.yield y) [.agg (symRow p)] S1 = some (.ret (.bool true), S2) ∧ Inv (k + 1) S2) :
  ∃ S', runFn Try.prog (handler Try.prog ppol n) N ppol 94 .none [.yld y, .ptr c 0] S = some (.ret .undef, .none, S') ∧ Inv (ol o).length S' := by
 rw [runFn_eq Try.func94 (by rfl)]
 simp [Try.f94, hc]
 generalize hL : loopN _ _ _ _ = L
 obtain ⟨x, st', rfl, hT⟩ := loop_fam' hL (VlE Inv (ol o).length y (sv false 2 symRow o)) (fun _ r => r.1 = .exit 0 ∧ r.2.defs = [] ∧ r.2.par = .none ∧ Inv (ol o).length r.2.S) (fun i => (ol o).length - i.k) ⟨0, S, by omega, h0⟩ (by show _ - 0 < N; omega) (by simp [VlE]) (fun i => by
  obtain ⟨k, S1, hk, hI1⟩ := i
  clear hL
  by_cases hkl : k < (ol o).length
  ·obtain ⟨p, hp1⟩ : ∃ p, (ol o)[k]? = some p := ⟨_, List.getElem?_eq_getElem hkl⟩
   have g7 : IntKind.i64.wrap ((k : Int) + 1) = (k : Int) + 1 := wrap_succ hkl (by omega)
   obtain ⟨S2, hy1, hy2⟩ := hy k p S1 hI1 hp1
   have hix := index_sv (own := false) (g := symRow) (k := .i64) Try.underlying23 tycells64 hp1
   simp [VlE, hkl, hix, hy1, g7, writeCells]
   refine ⟨⟨k + 1, S2, hkl, hy2⟩, ?_, ?_⟩
   ·show _ - (k + 1) < _ - k; omega
   ·simp
  ·have : k = (ol o).length := by omega
   subst this
   simp [VlE, hI1])
 obtain ⟨rfl, t1, t2, t3⟩ := hT
 simp only at t1 t2 t3
 refine ⟨st'.S, ?_, t3⟩
 simp [t1, t2]
end Go.Ab.Seat.Sy
namespace Go.Ab.Seat.Sy
open Go.Proofs Srt Go.Ab.Seat
set_option maxRecDepth 100000
set_option maxHeartbeats 4000000
variable {H : Handler} {N : Nat} {S : Sto}
theorem app_heapP {S1 : Sto} {lo : Nat} {acc : List SymV} {v x : AV} {p : SymV} (hr : rowsIn S1 2 x = some [symRow p]) (h : SlV S1 2 symRow lo (optL acc) v) (hl : acc.length < 2 ^ 29) (hlo : lo ≤ S1.next) :
  ∃ v' S2 l, (∀ env defs par, appendS Try.prog 2 23 23 v x { env := env, defs := defs, par := par, S := S1 } = some (.val v' { env := env, defs := defs, par := par, S := S2 })) ∧ SlV S2 2 symRow lo (optL (acc ++ [p])) v' ∧ Grew l S1 S2 ∧ ∀ a ∈ l, lo ≤ a := by
 have hgo : goodO (.arr 2 ((acc ++ [p]).map symRow)) = true := by
  rw [good_arr]; exact sameR_map goodSym _
 have hne : optL (acc ++ [p]) = some (acc ++ [p]) := by simp [optL]
 rw [hne]
 cases acc with
 | nil =>
  cases h
  have hb := not_big64 1 (by omega)
  refine ⟨.rsl S1.next 2 0 1, S1.new (.arr 2 ([p].map symRow)), [], ?_, ?_, Grew.new _ _ _ hgo, by simp⟩
  ·intro env defs par
   unfold appendS
   simp [moreA, hr, appHeap, hb]
  ·exact .arr (xs := [p]) (get_new_self _ _) hlo (by simp [next_new])
 | cons q acc =>
  rw [show optL (q :: acc) = some (q :: acc) from rfl] at h
  cases h with
  | arr h hlo' hid =>
   rename_i id
   have hb := not_big64 ((q :: acc).length + 1) (by simp at hl ⊢; omega)
   refine ⟨.rsl S1.next 2 0 (q :: acc ++ [p]).length, (S1.drop id).new (.arr 2 ((q :: acc ++ [p]).map symRow)), [id], ?_, ?_, (Grew.drop _ (.inl (by simp))).trans (Grew.new _ _ _ hgo), by simpa using hlo'⟩
   ·intro env defs par
    simp only [List.map_cons, List.length_cons] at h hb
    unfold appendS
    simp [moreA, hr, appHeap, h, hb]
    intro hh; omega
   ·exact .arr (get_new_self _ _) (by simpa using hlo) (by simp [next_new])
structure ApI (S0 : Sto) (b y : Nat) (r : ALoop) (xs : List SymV) (k : Nat) (S' : Sto) : Prop where
 g : ∃ x, Grew x S0 S' ∧ ∀ a ∈ x, a = b ∨ y ≤ a
 w : ∃ v, S'.get b = some (.cells [v]) ∧ SlV S' 2 symRow (y + 1) (optL (xs.take k)) v
 yy : S'.get y = some (.loop r)
theorem slv_facts {X : Type} {S : Sto} {g : X → List AV} {lo : Nat} {o : Option (List X)} {v : AV} (h : SlV S 2 g lo o v) : v.strip0 = v ∧ okTop v = true ∧ v.cells = [v] ∧ v.clr = v ∧ v.noLp = v ∧ v.strip = v ∧ sameL [v] [v] = true ∧ isAggV v = false := by
 cases h <;> simp [isAggV]
theorem apseqP_run {n c : Nat} {o : Option (List SymV)} (hc : S.get c = some (.cells [sv false 2 symRow o])) (hcl : c < S.next) (hm : (ol o).length < 2 ^ 29) (hN : (ol o).length < n) :
  ∃ v S', runFn Try.prog (handler Try.prog ppol (n + 1)) N ppol 102 .none [.nilsl, .fn (.func 94) [] [.ptr c 0]] S = some (.ret v, .none, S') ∧ Grew [] S S' ∧ SlV S' 2 symRow S.next (optL (ol o)) v := by
 rw [runFn_eq Try.func102 (by rfl)]
 simp [Try.f102]
 generalize hr : loopOf _ _ _ _ _ _ _ = r
 have hra := congrArg ALoop.assign hr
 have hrb := congrArg ALoop.body hr
 have hre := congrArg ALoop.env hr
 have hrf := congrArg ALoop.fn hr
 have hrp := congrArg ALoop.params hr
 have hrs := congrArg ALoop.state hr
 have hrn := congrArg ALoop.pending hr
 simp [loopOf] at hra hrb hre hrf hrp hrs hrn
 clear hr
 obtain ⟨b, hb⟩ : ∃ b, S.next = b := ⟨_, rfl⟩
 rw [hb] at hre
 obtain ⟨S0, hS0⟩ : ∃ S0, (((S.new (.cells [.nilsl])).new .deferred).new (.loop r)) = S0 := ⟨_, rfl⟩
 have hg0 : Grew [] S S0 := by rw [← hS0]; exact ((Grew.new _ _ _ (by simp)).trans (Grew.new _ _ _ rfl)).trans (Grew.new _ _ _ rfl)
 have hn0 : S0.next = b + 3 := by rw [← hS0, ← hb]; rfl
 have hb0 : S0.get b = some (.cells [.nilsl]) := by rw [← hS0, ← hb, get_new_ne (by simp only [next_new]; omega), get_new_ne (by simp only [next_new]; omega), get_new_self]
 have hd0 : S0.get (b + 1) = some .deferred := by rw [← hS0, ← hb]; simp
 have hy0 : S0.get (b + 2) = some (.loop r) := by rw [← hS0, ← hb]; simp
 have hc0 : S0.get c = some (.cells [sv false 2 symRow o]) := (hg0.get c hcl (by simp)).trans hc
 have hrr : ({ state := .ready, pending := none, fn := r.fn, env := r.env, params := r.params, assign := r.assign, body := r.body, defers := r.defers } : ALoop) = r := by
  obtain ⟨x1, x2, x3, x4, x5, x6, x7, x8⟩ := r
  simp only at hrs hrn
  subst hrs hrn
  rfl
 obtain ⟨S7, e4, hI7⟩ := valsP_run (n := n) (N := n) (S := S0) (y := b + 2) (ApI S0 b (b + 2) r (ol o)) hc0 (by omega) hN
  ⟨⟨[], Grew.refl _ _, fun a ha => by cases ha⟩, ⟨.nilsl, hb0, by rw [List.take_zero]; exact .nil⟩, hy0⟩
  (fun k p S1 hI hp => by
   obtain ⟨⟨x, hg, hx⟩, ⟨v, hw, hv⟩, hy⟩ := hI
   have hkl := (List.getElem?_eq_some_iff.1 hp).1
   obtain ⟨Sb, hSb⟩ : ∃ Sb, S1.put (b + 2) (.loop { r with state := .busy }) = Sb := ⟨_, rfl⟩
   have gb : Grew [b + 2] S1 Sb := by rw [← hSb]; exact Grew.put _ _ (.inl (by simp)) rfl
   have hwb : Sb.get b = some (.cells [v]) := by rw [← hSb, get_put_ne (by omega)]; exact hw
   have hyb : Sb.get (b + 2) = some (.loop { r with state := .busy }) := by rw [← hSb]; exact get_put_self hy
   have hvb : SlV Sb 2 symRow (b + 3) (optL ((ol o).take k)) v := hv.mono gb (fun a ha => by simp at ha; omega)
   have hnb : b + 3 ≤ Sb.next := by have := hg.next; have := gb.next; omega
   obtain ⟨Sc, hSc⟩ : ∃ Sc, Sb.new (.arr 2 [symRow p]) = Sc := ⟨_, rfl⟩
   have gc : Grew [] Sb Sc := by rw [← hSc]; exact Grew.new _ _ _ (by rw [good_arr]; exact sameR_map goodSym [p])
   have hvc : SlV Sc 2 symRow (b + 3) (optL ((ol o).take k)) v := hvb.mono gc (by simp)
   have hrc : rowsIn Sc 2 (.rsl Sb.next 2 0 1) = some [symRow p] := by rw [← hSc]; simp [rowsIn]
   obtain ⟨v', S2, x2, happ, hv2, hg2', hx2⟩ := app_heapP hrc hvc (by have := List.length_take_le k (ol o); omega) (by have := gc.next; omega)
   have hg2 : Grew x2 Sb S2 := (gc.mono' (by simp)).trans hg2'
   obtain ⟨f1, f2, f3, f4, f5, f6, f7, f8⟩ := slv_facts hvb
   obtain ⟨h1, h2, h3, h4, h5, h6, h7, h8⟩ := slv_facts hv2
   have hb2 : S2.get b = some (.cells [v]) := (hg2.get b (by omega) (fun hm => by have := hx2 _ hm; omega)).trans hwb
   have hy2 : S2.get (b + 2) = some (.loop { r with state := .busy }) := (hg2.get (b + 2) (by omega) (fun hm => by have := hx2 _ hm; omega)).trans hyb
   have hn2 := hg2.next
   refine ⟨(S2.put b (.cells [v'])).put (b + 2) (.loop r), ?_, ?_⟩
   ·obtain ⟨n', rfl⟩ : ∃ n', n = n' + 1 := ⟨n - 1, by omega⟩
    rw [call_yield, yield_eq hy (by rw [← hrp]; rfl) (by rw [← hrf]; rfl)]
    rw [← hra, ← hre, ← hrf, ← hrp]
    simp [writeCells]
    rw [yBody_normal hy hrs.symm, hSb, ← hrb, ← hrf]
    have hps : Sb.put b (.cells [v]) = Sb := put_self hwb
    simp [hwb, takeCells_eq, f1, f3, f4, f5, f6, f8, hps, buildSliceA, fillRows, asArr, hSc, happ, hb2, h2, h3, h4, h5, h6, writeCells]
    rw [yFin_normal (r := { r with state := .busy }) (by rw [get_put_ne (by omega)]; exact hy2)]
    simp [hrr]
   ·have gp : Grew [b] S2 (S2.put b (.cells [v'])) := Grew.put _ _ (.inl (by simp)) (by rw [good_cells]; exact h7)
    have gq : Grew [b + 2] (S2.put b (.cells [v'])) ((S2.put b (.cells [v'])).put (b + 2) (.loop r)) := Grew.put _ _ (.inl (by simp)) rfl
    refine ⟨⟨x ++ [b + 2] ++ x2 ++ [b], (((hg.mono' ?_).trans (gb.mono' ?_)).trans (hg2.mono' ?_)).trans ((gp.mono' ?_).trans (gq.mono' ?_)), ?_⟩, ⟨v', ?_, ?_⟩, ?_⟩
    ·intro a ha; simp [ha]
    ·intro a ha; simp at ha; simp [ha]
    ·intro a ha; simp [ha]
    ·intro a ha; simp at ha; simp [ha]
    ·intro a ha; simp at ha; simp [ha]
    ·intro a ha
     simp only [List.mem_append, List.mem_singleton] at ha
     rcases ha with ((ha | ha) | ha) | ha
     ·exact hx a ha
     ·omega
     ·have := hx2 a ha; omega
     ·omega
    ·rw [get_put_ne (by omega)]; exact get_put_self hb2
    ·rw [take_snoc hp]
     exact (hv2.mono gp (fun a ha => by simp at ha; omega)).mono gq (fun a ha => by simp at ha; omega)
    ·exact get_put_self (o' := .loop { r with state := .busy }) (by rw [get_put_ne (by omega)]; exact hy2))
 obtain ⟨⟨x, hg, hx⟩, ⟨v, hw, hv⟩, hy⟩ := hI7
 rw [List.take_of_length_le (Nat.le_refl _)] at hv
 have hcall : (handler Try.prog ppol (n + 1)).call (.func 94) [.yld (b + 2), .ptr c 0] S0 = some (.ret .undef, S7) := by
  rw [call_func (by rfl), e4]; rfl
 have hrg := fun st defs => rgEnd_ret (st := st) (defs := defs) (v := .undef) hy hrs.symm hrn.symm
 have hn7 := hg.next
 obtain ⟨S8, hS8⟩ : ∃ S8, S7.drop (b + 2) = S8 := ⟨_, rfl⟩
 have g8 : Grew [b + 2] S7 S8 := by rw [← hS8]; exact Grew.drop _ (.inl (by simp))
 have hw8 : S8.get b = some (.cells [v]) := by rw [← hS8, get_drop_ne (by omega)]; exact hw
 have hd8 : S8.get (b + 1) = some .deferred := by rw [← hS8, get_drop_ne (by omega), hg.get (b + 1) (by omega) (fun hm => by have := hx _ hm; omega)]; exact hd0
 have g9 : Grew [b + 1] S8 (S8.drop (b + 1)) := Grew.drop _ (.inl (by simp))
 obtain ⟨f1, f2, f3, f4, f5, f6, f7, f8⟩ := slv_facts hv
 refine ⟨v, S8.drop (b + 1), ?_, ?_, ?_⟩
 ·rw [hb]
  simp [hS0, hcall, hrg, hS8, hw8, hd8, f1, f4, f5, f6, unwind_coll]
 ·refine ((hg0.behind hg (fun a ha => by have := hx a ha; omega)).behind g8 (by simp; omega)).behind g9 (by simp; omega)
 ·rw [hb]
  exact ((hv.mono g8 (fun a ha => by simp at ha; omega)).mono g9 (fun a ha => by simp at ha; omega)).lower (by omega)
end Go.Ab.Seat.Sy
namespace Go.Ab.Seat.Sy
open Go.Proofs Srt Go.Ab.Seat
set_option maxRecDepth 100000
set_option maxHeartbeats 4000000
variable {H : Handler} {N : Nat} {S : Sto}
theorem ins_nil {n g : Nat} (hN : 1 < n) : (handler Try.prog ppol (n + 1)).call (.func 106) [.nilsl, .int .i64 0, .int .i64 0, .fn (.func g) [] []] S = some (.ret .undef, S) := by
 rw [call_func (by rfl), runFn_eq Try.func106 (by rfl)]
 simp [Try.f106, show IntKind.i64.wrap 1 = 1 from Go.IntWalk.i64_in _ (by omega)]
 obtain ⟨n', rfl⟩ : ∃ n', n = n' + 1 := ⟨n - 1, by omega⟩
 rw [loop_step]
 simp
theorem stab_nil {n g : Nat} (hN : 3 < n) : (handler Try.prog ppol (n + 2)).call (.func 103) [.nilsl, .int .i64 0, .fn (.func g) [] []] S = some (.ret .undef, S) := by
 rw [call_func (by rfl), runFn_eq Try.func103 (by rfl)]
 simp [Try.f103]
 rw [loop_step]
 simp [ins_nil (n := n) (by omega)]
 rw [loop_step]
 simp
theorem map_tab {X Y : Type} (g : X → Y) (xs : List X) (f : Nat → X) (h : ∀ i, i < xs.length → xs[i]? = some (f i)) : xs.map g = tab xs.length fun i => g (f i) := by
 apply List.ext_getElem?
 intro i
 rw [List.getElem?_map]
 by_cases hi : i < xs.length
 ·rw [h i hi, tab_get _ hi]; rfl
 ·rw [List.getElem?_eq_none (by omega), List.getElem?_eq_none (by rw [tab_len]; omega)]; rfl
theorem sorP_call {n g K : Nat} {c : SymV → SymV → Int} (hc : CmpP g K c) {xs : List SymV} {v : AV} {lo : Nat} (hv : SlV S 2 symRow lo (optL xs) v) (hm : xs.length < 2 ^ 20) (hN : K + 3 * xs.length + 50 ≤ n) (hK : SOK S) :
  ∃ S' ys x, (handler Try.prog ppol n).call (.func 93) [v, .fn (.func g) [] []] S = some (.ret .undef, S') ∧ Sorted (fun x y => c x y < 0) xs ys ∧ SlV S' 2 symRow lo (optL ys) v ∧ Grew x S S' ∧ ∀ a ∈ x, lo ≤ a := by
 obtain ⟨n', rfl⟩ : ∃ n', n = n' + 4 := ⟨n - 4, by omega⟩
 cases xs with
 | nil =>
  cases hv
  refine ⟨S, [], [], ?_, Sorted.nil _, .nil, Grew.refl _ _, by simp⟩
  rw [call_func (by rfl), runFn_eq Try.func93 (by rfl)]
  simp [Try.f93, lenA, stab_nil (n := n' + 1) (S := S) (g := g) (by simp at hN; omega)]
 | cons p xs =>
  rw [show optL (p :: xs) = some (p :: xs) from rfl] at hv
  generalize hx : p :: xs = l at *
  cases hv with
  | arr h hlo hid =>
   rename_i id
   obtain ⟨f, hf⟩ : ∃ f : Nat → SymV, ∀ i, i < l.length → l[i]? = some (f i) := ⟨fun i => (l[i]?).getD p, fun i hi => by simp [hi]⟩
   have hS : S.get id = some (arrP l.length f) := by rw [h, map_tab symRow l f hf]; rfl
   obtain ⟨d, p1, s1, hrun⟩ := stabP_run (k' := n' + 2) (N := n' + 2) hc (by omega) f hm (by omega) hS hK
   have hys := Sorted.of hf p1 s1
   have hcall : (handler Try.prog ppol (n' + 3)).call (.func 103) [.rsl id 2 0 l.length, .int .i64 l.length, .fn (.func g) [] []] S = some (.ret .undef, S.put id (arrD l.length d)) := by rw [call_func (by rfl), hrun]; rfl
   refine ⟨S.put id (arrD l.length d), _, [id], ?_, hys, ?_, Grew.put _ _ (.inl (by simp)) (good_arrD _ _), by simpa using hlo⟩
   ·rw [call_func (by rfl), runFn_eq Try.func93 (by rfl)]
    simp [Try.f93, lenA, hcall]
   ·have hne : optL ((List.range l.length).map fun i => (d i).1) = some ((List.range l.length).map fun i => (d i).1) := by
     unfold optL
     rw [if_neg]
     rw [← hx]
     simp [List.range_succ]
    rw [hne]
    have := SlV.arr (S := S.put id (arrD l.length d)) (es := 2) (g := symRow) (lo := lo) (xs := (List.range l.length).map fun i => (d i).1) (id := id) ((get_put_self h).trans (by rw [List.map_map]; rfl)) hlo (by rw [next_put]; exact hid)
    simpa using this
theorem frz_slv {X : Type} {S : Sto} {g : X → List AV} {lo : Nat} {ys : List X} {v : AV} (h : SlV S 2 g lo (optL ys) v) : ∃ S' x, frzA true S v = (sv false 2 g (optL ys), S') ∧ Grew x S S' ∧ ∀ a ∈ x, lo ≤ a := by
 generalize ho : optL ys = o at h
 cases h with
 | nil => exact ⟨S, [], rfl, Grew.refl _ _, by simp⟩
 | arr h hlo hid =>
  rename_i xs id
  have := frzA_arr h
  rw [List.length_map] at this
  exact ⟨S.drop id, [id], this, Grew.drop _ (.inl (by simp)), by simpa using hlo⟩
theorem frzV_of {fz : Bool} {S : Sto} {v : AV} (h : isAggV v = false) : frzV fz S v = frzA fz S v := by
 cases v <;> first | (simp [isAggV] at h; done) | (cases fz <;> rfl)
theorem ordP_call {n g K : Nat} {c : SymV → SymV → Int} (hc : CmpP g K c) (o : Option (List SymV)) (hm : (ol o).length < 2 ^ 20) (hN : K + 3 * (ol o).length + 60 ≤ n) (hK : SOK S) :
  ∃ S' ys, (handler Try.prog ppol n).call (.func 46) [sv false 2 symRow o, .fn (.func g) [] []] S = some (.ret (sv false 2 symRow (optL ys)), S') ∧ Grew [] S S' ∧ Sorted (fun x y => c x y < 0) (ol o) ys := by
 obtain ⟨n', rfl⟩ : ∃ n', n = n' + 8 := ⟨n - 8, by omega⟩
 obtain ⟨S1, hS1⟩ : ∃ S1, S.new (.cells [sv false 2 symRow o]) = S1 := ⟨_, rfl⟩
 have g1 : Grew [] S S1 := by rw [← hS1]; exact Grew.new _ _ _ (by rw [good_cells]; simp [same_sv false 2 goodSym])
 have hn1 : S1.next = S.next + 1 := by rw [← hS1]; rfl
 have c1 : (handler Try.prog ppol (n' + 7)).call (.func 73) [sv false 2 symRow o] S = some (.ret (.fn (.func 94) [] [.ptr S.next 0]), S1) := by
  rw [call_func (by rfl), runFn_eq Try.func73 (by rfl)]
  simp [Try.f73, hS1]
 obtain ⟨v, S2, e2, g2, hv2⟩ := apseqP_run (n := n' + 3) (N := n' + 4) (S := S1) (c := S.next) (o := o) (by rw [← hS1]; exact get_new_self _ _) (by omega) (by omega) (by omega)
 have c2 : (handler Try.prog ppol (n' + 5)).call (.func 102) [.nilsl, .fn (.func 94) [] [.ptr S.next 0]] S1 = some (.ret v, S2) := by rw [call_func (by rfl), e2]; rfl
 obtain ⟨f1, f2, f3, f4, f5, f6, f7, f8⟩ := slv_facts hv2
 have c3 : (handler Try.prog ppol (n' + 6)).call (.func 92) [.fn (.func 94) [] [.ptr S.next 0]] S1 = some (.ret v, S2) := by
  rw [call_func (by rfl), runFn_eq Try.func92 (by rfl)]
  simp [Try.f92, c2, f4, f5]
 obtain ⟨S3, ys, x, c4, hs, hv3, g3, hx⟩ := sorP_call (n := n' + 6) hc hv2 hm (by omega) (g2.sok (g1.sok hK))
 have c5 : (handler Try.prog ppol (n' + 7)).call (.func 72) [.fn (.func 94) [] [.ptr S.next 0], .fn (.func g) [] []] S1 = some (.ret v, S3) := by
  rw [call_func (by rfl), runFn_eq Try.func72 (by rfl)]
  simp [Try.f72, c3, c4, f4, f5, f6]
 obtain ⟨S4, x4, e4, g4, hx4⟩ := frz_slv hv3
 refine ⟨S4, ys, ?_, ((g1.trans g2).behind g3 (fun a ha => by have := hx a ha; omega)).behind g4 (fun a ha => by have := hx4 a ha; omega), hs⟩
 rw [call_func (by rfl), runFn_eq Try.func46 (by rfl)]
 simp [Try.f46, c1, c5, f4, f5, f6, frzV_of f8, e4]
end Go.Ab.Seat.Sy
namespace Go.Ab.Seat
open Go.Proofs Srt
set_option maxRecDepth 100000
set_option maxHeartbeats 4000000
variable {H : Handler} {N : Nat} {S : Sto}
theorem cmpI_call {n : Nat} (a b : Int) : (handler Try.prog ppol (n + 2)).call (.func 71) [.int .i64 a, .int .i64 b] S = some (.ret (.int .i64 (cmpI a b)), S) := by
 have c1 : ∀ x : Int, (handler Try.prog ppol (n + 1)).call (.func 91) [.int .i64 x] S = some (.ret (.bool false), S) := fun x => by
  rw [call_func (by rfl), runFn_eq Try.func91 (by rfl)]
  simp [Try.f91]
 rw [call_func (by rfl), runFn_eq Try.func71 (by rfl)]
 unfold cmpI
 by_cases h1 : a < b
 ·simp [Try.f71, c1, h1]
 ·by_cases h2 : b < a
  ·simp [Try.f71, c1, h1, h2]
  ·simp [Try.f71, c1, h1, h2]
theorem cmpB_call {n : Nat} (a b : List UInt8) : (handler Try.prog ppol (n + 2)).call (.func 75) [.str a, .str b] S = some (.ret (.int .i64 (cmpB a b)), S) := by
 have c1 : ∀ x : List UInt8, (handler Try.prog ppol (n + 1)).call (.func 95) [.str x] S = some (.ret (.bool false), S) := fun x => by
  rw [call_func (by rfl), runFn_eq Try.func95 (by rfl)]
  simp [Try.f95, binA, strBin]
 rw [call_func (by rfl), runFn_eq Try.func75 (by rfl)]
 unfold cmpB
 cases h1 : Op.bytesLess a b
 ·cases h2 : Op.bytesLess b a
  ·have e : a = b := by
    rcases bl_tri a b with h | h | h
    ·unfold bl at h; rw [h1] at h; cases h
    ·exact h
    ·unfold bl at h; rw [h2] at h; cases h
   subst e
   simp [Try.f75, c1, h1, binA, strBin]
  ·have e : (a == b) = false := by
    rw [beq_eq_false_iff_ne]
    rintro rfl
    rw [h1] at h2; cases h2
   simp [Try.f75, c1, h1, e, binA, strBin]
 ·simp [Try.f75, c1, h1, binA, strBin]
def namesC (x y : SymV) : Int := cmpB x.name y.name
def placesC (x y : SymV) : Int := cmpI x.at' y.at'
theorem names_call {n : Nat} (x y : SymV) : (handler Try.prog ppol (n + 3)).call (.func 48) [.agg (symRow x), .agg (symRow y)] S = some (.ret (.int .i64 (namesC x y)), S) := by
 rw [call_func (by rfl), runFn_eq Try.func48 (by rfl)]
 simp [Try.f48, symRow, cmpB_call, namesC]
theorem places_call {n : Nat} (x y : SymV) : (handler Try.prog ppol (n + 3)).call (.func 51) [.agg (symRow x), .agg (symRow y)] S = some (.ret (.int .i64 (placesC x y)), S) := by
 rw [call_func (by rfl), runFn_eq Try.func51 (by rfl)]
 simp [Try.f51, symRow, cmpI_call, placesC]
theorem wo_iff {α : Type} {r s : α → α → Prop} (h : ∀ x y, s x y ↔ r x y) (w : WO r) : WO s := by
 have : s = r := by funext x y; exact propext (h x y)
 rw [this]; exact w
theorem names_ok : Sy.CmpP 48 3 namesC :=
 ⟨fun x y S k hk => by obtain ⟨n, rfl⟩ : ∃ n, k = n + 3 := ⟨k - 3, by omega⟩; exact names_call x y, wo_iff (r := fun x y : SymV => bl x.name y.name) (fun x y => cmpB_neg _ _) (bl_wo.on _)⟩
theorem places_ok : Sy.CmpP 51 3 placesC :=
 ⟨fun x y S k hk => by obtain ⟨n, rfl⟩ : ∃ n, k = n + 3 := ⟨k - 3, by omega⟩; exact places_call x y, wo_iff (r := fun x y : SymV => x.at' < y.at') (fun x y => cmpI_neg _ _) (int_wo.on _)⟩
end Go.Ab.Seat
namespace Go.Ab.Seat
open Go.Proofs Srt
set_option maxRecDepth 100000
set_option maxHeartbeats 4000000
variable {H : Handler} {N : Nat} {S : Sto}
def liesC (x y : PartV) : Int := cmpI x.at' y.at'
theorem lies_call {n : Nat} (x y : PartV) : (handler Try.prog ppol (n + 3)).call (.func 45) [.agg (partRow x), .agg (partRow y)] S = some (.ret (.int .i64 (liesC x y)), S) := by
 rw [call_func (by rfl), runFn_eq Try.func45 (by rfl)]
 simp [Try.f45, partRow, cmpI_call, liesC]
theorem lies_ok : CmpP 45 3 liesC :=
 ⟨fun x y S k hk => by obtain ⟨n, rfl⟩ : ∃ n, k = n + 3 := ⟨k - 3, by omega⟩; exact lies_call x y, wo_iff (r := fun x y : PartV => x.at' < y.at') (fun x y => cmpI_neg _ _) (int_wo.on _)⟩
end Go.Ab.Seat
namespace Go.Ab.Seat
open Go.Proofs Srt
set_option maxRecDepth 100000
set_option maxHeartbeats 4000000
variable {H : Handler} {N : Nat} {S : Sto}
section
variable {X : Type}
def spot (p : X → Bool) : List X → Nat
 | [] => 0
 | y :: ys => if p y then spot p ys + 1 else 0
theorem spot_le (p : X → Bool) : ∀ ys : List X, spot p ys ≤ ys.length
 | [] => Nat.le_refl _
 | y :: ys => by
  have := spot_le p ys
  simp only [spot, List.length_cons]
  split <;> omega
theorem spot_yes (p : X → Bool) : ∀ {ys : List X} {k : Nat} {y : X}, k < spot p ys → ys[k]? = some y → p y = true
 | [], k, y, h, _ => by simp [spot] at h
 | a :: ys, k, y, h, hy => by
  simp only [spot] at h
  split at h
  ·rename_i ha
   cases k with
   | zero => simp only [List.getElem?_cons_zero, Option.some.injEq] at hy; rw [← hy]; exact ha
   | succ k => exact spot_yes p (ys := ys) (k := k) (by omega) (by simpa using hy)
  ·omega
theorem spot_no (p : X → Bool) : ∀ {ys : List X} {y : X}, ys[spot p ys]? = some y → p y = false
 | [], y, h => by simp at h
 | a :: ys, y, h => by
  simp only [spot] at h
  split at h
  ·exact spot_no p (ys := ys) (by simpa using h)
  ·rename_i ha
   simp only [List.getElem?_cons_zero, Option.some.injEq] at h
   rw [← h]; simpa using ha
def putIn (p : X → Bool) (ys : List X) (x : X) : List X := ys.take (spot p ys) ++ x :: ys.drop (spot p ys)
theorem putIn_len (p : X → Bool) (ys : List X) (x : X) : (putIn p ys x).length = ys.length + 1 := by
 have := spot_le p ys
 simp only [putIn, List.length_append, List.length_take, List.length_cons, List.length_drop]; omega
theorem foldl_putIn_len (q : X → X → Bool) : ∀ (xs ys : List X), (xs.foldl (fun ys x => putIn (fun y => q y x) ys x) ys).length = ys.length + xs.length
 | [], ys => rfl
 | x :: xs, ys => by
  rw [List.foldl_cons, foldl_putIn_len q xs, putIn_len, List.length_cons]; omega
end
def before (y x : SymV) : Bool := Op.bytesLess y.name x.name
theorem build41 : buildA Try.prog 41 [] = some (.agg [.nilsl, .nilsl]) := by kernel_rfl
end Go.Ab.Seat
namespace Go.Ab.Seat
open Go.Proofs Srt
set_option maxRecDepth 100000
set_option maxHeartbeats 4000000
variable {H : Handler} {N : Nat} {S : Sto}
def flatStep (acc : List UInt8) (p : PartV) : List UInt8 := acc ++ (List.replicate (atN p - acc.length) 0 ++ ol p.bytes)
def flatB (l : List PartV) : List UInt8 := l.foldl flatStep []
theorem flatB_snoc (l : List PartV) (p : PartV) : flatB (l ++ [p]) = flatStep (flatB l) p := by simp [flatB]
def flatO (l : List PartV) : Option (List UInt8) := if l = [] then none else some (flatB l)
theorem ol_flatO (l : List PartV) : ol (flatO l) = flatB l := by
 unfold flatO; split
 ·rename_i h; subst h; rfl
 ·rfl
theorem flatB_len {l : List PartV} (h : pBad 0 l = false) : ∀ k, (flatB (l.take k)).length = lastN 0 (l.take k)
 | 0 => by simp [flatB, lastN]
 | k + 1 => by
  by_cases hk : k < l.length
  ·obtain ⟨p, hp⟩ : ∃ p, l[k]? = some p := ⟨_, List.getElem?_eq_getElem hk⟩
   have hpo := pBad_at (x := 0) h hp
   have ih := flatB_len h k
   have := hpo.ge
   rw [take_snoc hp, flatB_snoc, lastN_snoc]
   simp only [flatStep, List.length_append, List.length_replicate]
   unfold endN plen
   omega
  ·have ih := flatB_len h k
   rw [List.take_of_length_le (by omega)] at ih ⊢
   exact ih
theorem lastN_le {l : List PartV} (h : pBad 0 l = false) : ∀ k, lastN 0 (l.take k) ≤ 2048
 | 0 => by simp [lastN]
 | k + 1 => by
  by_cases hk : k < l.length
  ·obtain ⟨p, hp⟩ : ∃ p, l[k]? = some p := ⟨_, List.getElem?_eq_getElem hk⟩
   rw [take_snoc hp, lastN_snoc]
   exact (pBad_at (x := 0) h hp).le
  ·have ih := lastN_le h k
   rw [List.take_of_length_le (by omega)] at ih ⊢
   exact ih
theorem app_svB {st : St} {own : Bool} {o : Option (List UInt8)} {xs : List UInt8} (h : xs.length + (ol o).length < 2 ^ 40) : appendS Try.prog 1 28 28 (.sl true 1 (xs.map byteRow)) (sv own 1 byteRow o) st = some (.val (.sl true 1 ((xs ++ ol o).map byteRow)) st) := by
 rw [List.map_append]
 exact app_bytes (.inl rfl) (by cases o <;> simp [rowsIn, rowsOf, sv, ol]) (by simpa using h)
theorem zeroRow : byteRow 0 = [.int .u8 0] := rfl
theorem app_more {st : St} {s x e : TypeId} {z base v w : AV} {more : List (List AV)} (h1 : Try.prog.underlying s = some (.slice e)) (h2 : zeroA Try.prog e = some z) (h3 : z.cells.length = Try.prog.cellsOf e) (h4 : moreA Try.prog st.S e x v = some more) (h5 : appInline Try.prog e base more = some w) :
  appendS Try.prog 1 s x base v st = some (.val w st) := by
 unfold appendS
 simp only [h1, h2, if_pos h3, if_neg (show ¬ (1 = 0) by decide), if_neg (show ¬ (1 = 2) by decide), h4, h5, Option.map_some]
theorem app_zeros {st : St} {xs : List UInt8} {k : Nat} (h : xs.length + k < 2 ^ 39) : appendS Try.prog 1 28 3 (.sl true 1 (xs.map byteRow)) (.int .i64 k) st = some (.val (.sl true 1 ((xs ++ List.replicate k 0).map byteRow)) st) := by
 have hm : moreA Try.prog st.S 5 3 (.int .i64 k) = some ((List.replicate k (0 : UInt8)).map byteRow) := by
  unfold moreA
  simp only [Try.underlying3, tyzero5]
  rw [if_pos (by refine ⟨by omega, by omega, by rw [tycells5]; rfl, ?_⟩; rw [tybytes5]; omega)]
  simp [List.map_replicate, zeroRow]
 have hb : ¬ bigA Try.prog 5 ((xs.map byteRow).length + ((List.replicate k (0 : UInt8)).map byteRow).length) := not_big _ (by simp; omega)
 have ha : appInline Try.prog 5 (.sl true 1 (xs.map byteRow)) ((List.replicate k (0 : UInt8)).map byteRow) = some (.sl true 1 ((xs ++ List.replicate k 0).map byteRow)) := by
  rw [List.map_append]
  have h5 := appInline_own (P := Try.prog) (e := 5) hb
  rw [tycells5] at h5
  exact h5
 exact app_more Try.underlying28 tyzero5 (by rw [tycells5]; rfl) hm ha
end Go.Ab.Seat
namespace Go.Ab.Seat
open Go.Proofs Srt
set_option maxRecDepth 100000
set_option maxHeartbeats 4000000
variable {H : Handler} {N : Nat} {S : Sto}
end Go.Ab.Seat
namespace Go.Ab.Seat
open Go.Proofs Srt
set_option maxRecDepth 100000
set_option maxHeartbeats 4000000
variable {H : Handler} {N : Nat} {S : Sto}
theorem clear50_call {n a : Nat} {cs : List AV} (hS : S.get a = some (.cells cs)) (hl : cs.length = 2) : (handler Try.prog ppol (n + 1)).call (.func 50) [.ptr a 0] S = some (.ret .undef, S.put a (.cells [.nilsl, .nilsl])) := by
 obtain ⟨x, y, rfl⟩ : ∃ x y, cs = [x, y] := by
  match cs, hl with
  | [x, y], _ => exact ⟨x, y, rfl⟩
 rw [call_func (by rfl), runFn_eq Try.func50 (by rfl)]
 simp [Try.f50, hS, build41, writeCells]
theorem slv2 {X : Type} {S : Sto} {g : X → List AV} {lo : Nat} {o : Option (List X)} {v : AV} (h : SlV S 2 g lo o v) : v.strip0 = v ∧ okTop v = true ∧ v.cells = [v] ∧ v.clr = v ∧ v.noLp = v ∧ v.strip = v ∧ sameL [v] [v] = true ∧ isAggV v = false := by
 cases h <;> simp [isAggV]
theorem own_run2 {n : Nat} (f : FileV) (hk : SOK S) (h1 : (ol f.parts).length < 2 ^ 30) (h2 : (ol f.names).length < 2 ^ 30) (hN : (ol f.parts).length < N) (hp : ∀ p ∈ ol f.parts, (ol p.bytes).length < 2 ^ 40) :
  ∃ v w S' m, runFn Try.prog (handler Try.prog ppol (n + 2)) N ppol 49 .none [.agg (fileC f)] S = some (.ret (.agg [v, w]), .none, S') ∧ Grew [] S S' ∧ SlV S' 2 partRow S.next f.parts v ∧ SlV S' 2 symRow m f.names w ∧ S.next ≤ m ∧ ∀ id e o l, v = .rsl id e o l → id < m := by
 obtain ⟨v, S1, e1, hg1, hv⟩ := cloneP_run (H := handler Try.prog ppol (n + 1)) (N := n + 1) (S := S) f.parts h1
 obtain ⟨w, S2, e2, hg2, hw⟩ := cloneS_run (H := handler Try.prog ppol (n + 1)) (N := n + 1) (S := S1) f.names h2
 have c1 : (handler Try.prog ppol (n + 2)).call (.func 76) [sv false 2 partRow f.parts] S = some (.ret v, S1) := by
  rw [call_func (by rfl), e1]; rfl
 have c2 : (handler Try.prog ppol (n + 2)).call (.func 77) [sv false 2 symRow f.names] S1 = some (.ret w, S2) := by
  rw [call_func (by rfl), e2]; rfl
 have hg : Grew [] S S2 := hg1.trans hg2
 have hk2 : SOK S2 := hg.sok hk
 have hv2 : SlV S2 2 partRow S.next f.parts v := hv.mono hg2 (by simp)
 have hw2 : SlV S2 2 symRow S1.next f.names w := hw
 have hvm : ∀ id e o l, v = .rsl id e o l → id < S1.next := fun id e o l he => by
  subst he
  revert hv
  generalize f.parts = oo
  intro hv
  cases hv with
  | arr _ _ h => exact h
 refine ⟨v, w, S2, S1.next, ?_, hg, hv2, hw2, hg1.next, hvm⟩
 clear hvm
 have hw0 : w.strip0 = w ∧ okTop w = true ∧ w.cells = [w] ∧ w.clr = w ∧ w.noLp = w ∧ w.strip = w ∧ isAggV w = false ∧ (∀ (x : Option (AExit × St)), nbK w x = x) := by
  revert hw2
  generalize f.names = oo
  intro hw2
  cases hw2 <;> simp [isAggV]
 obtain ⟨w1, w2, w3, w4, w5, w6, w7, w8⟩ := hw0
 have hsk := fun x => sK_grew (α := AExit × St) hk hg1 x
 rw [runFn_eq Try.func49 (by rfl)]
 simp [Try.f49, fileC]
 rw [evDraw_go]
 ·generalize hfp : f.parts = o at *
  cases hv2 with
  | nil =>
   simp [c1, c2, hsk, w1, w2, w3, w4, w5, w6, w8, writeCells, lenA]
   rw [show N = (N - 1) + 1 by omega, loop_step]
   simp [w1, writeCells, takeCells_eq]
  | arr ha hlo hid =>
   rename_i xs id
   simp [c1, c2, hsk, w1, w2, w3, w4, w5, w6, w8, writeCells, lenA]
   simp only [ol, Option.getD_some] at h1 hN hp
   rw [loop_go (fun k => { env := envOf 32 [(1, .box [.rsl id 2 0 xs.length, w]), (2, .box [.nilsl, .nilsl]), (14, .int .i64 xs.length), (15, .int .i64 k)], defs := [], par := .none, S := S2 }) xs.length hN]
   ·simp [w1, writeCells, takeCells_eq]
   ·simp
   ·intro k hk'
    obtain ⟨p, hp1⟩ : ∃ p, xs[k]? = some p := ⟨_, List.getElem?_eq_getElem hk'⟩
    have hrow : (xs.map partRow)[k]? = some (partRow p) := by rw [List.getElem?_map, hp1]; rfl
    have hix := index_rsl (id := id) (k := .i64) (len := xs.length) Try.underlying22 tycells45 hk' (by omega)
    have hln := fun env t off => loadA_aptr (P := Try.prog) (env := env) (t := t) (off := off) ha hrow
    have hst := fun env defs par => storeS_arr (P := Try.prog) (env := env) (defs := defs) (par := par) (t := 28) (off := 1) (v := sv true 1 byteRow p.bytes) ha hrow (by simp [writeCells, partRow])
    have g7 : IntKind.i64.wrap ((k : Int) + 1) = (k : Int) + 1 := wrap_succ hk' (by omega)
    have hsk2 := fun x => sK_self (α := AExit × St) hk2 x
    have hcl := fun own => clone_call (n := n + 1) (S := S2) own p.bytes (hp p (List.mem_of_getElem? hp1))
    simp [hk']
    rw [evDraw_go]
    ·simp [w1, hix, hln, hst, hcl, hsk2, g7, partRow]
    ·kernel_rfl
 ·kernel_rfl
theorem own_call2 {n : Nat} (f : FileV) (hk : SOK S) (h1 : (ol f.parts).length < 2 ^ 30) (h2 : (ol f.names).length < 2 ^ 30) (hN : (ol f.parts).length < n + 2) (hp : ∀ p ∈ ol f.parts, (ol p.bytes).length < 2 ^ 40) :
  ∃ v w S' m, (handler Try.prog ppol (n + 3)).call (.func 49) [.agg (fileC f)] S = some (.ret (.agg [v, w]), S') ∧ Grew [] S S' ∧ SlV S' 2 partRow S.next f.parts v ∧ SlV S' 2 symRow m f.names w ∧ S.next ≤ m ∧ ∀ id e o l, v = .rsl id e o l → id < m := by
 obtain ⟨v, w, S', m, e, h⟩ := own_run2 (n := n) (N := n + 2) f hk h1 h2 hN hp
 exact ⟨v, w, S', m, by rw [call_func (by rfl), e]; rfl, h⟩
end Go.Ab.Seat
namespace Go.Ab.Seat
open Go.Proofs Srt
set_option maxRecDepth 100000
set_option maxHeartbeats 4000000
variable {H : Handler} {N : Nat} {S : Sto}
def errF : AV := .tup [.agg [.nilsl, .nilsl], .int .i64 310]
end Go.Ab.Seat
namespace Go.Ab.Seat
open Go.Proofs Srt
set_option maxRecDepth 100000
set_option maxHeartbeats 4000000
variable {H : Handler} {N : Nat} {S : Sto}
theorem frz_slv1 {X : Type} {S : Sto} {g : X → List AV} {lo : Nat} {o : Option (List X)} {v : AV} (h : SlV S 2 g lo o v) : ∃ S' x, frzA true S v = (sv false 2 g o, S') ∧ Grew x S S' ∧ (∀ a ∈ x, lo ≤ a) ∧ ∀ a ∈ x, ∃ e o' l, v = .rsl a e o' l := by
 cases h with
 | nil => exact ⟨S, [], rfl, Grew.refl _ _, by simp, by simp⟩
 | arr h hlo hid =>
  rename_i xs id
  have := frzA_arr h
  rw [List.length_map] at this
  exact ⟨S.drop id, [id], this, Grew.drop _ (.inl (by simp)), by simpa using hlo, by simp⟩
end Go.Ab.Seat
namespace Go.Ab.Seat
open Go.Proofs Srt
set_option maxRecDepth 100000
set_option maxHeartbeats 4000000
variable {H : Handler} {N : Nat} {S : Sto}
theorem app_zeros_sv {o : Option (List UInt8)} {k : Nat} (h : (ol o).length + k < 2 ^ 39) : ∃ o', (∀ st, appendS Try.prog 1 28 3 (sv true 1 byteRow o) (.int .i64 k) st = some (.val (sv true 1 byteRow o') st)) ∧ ol o' = ol o ++ List.replicate k 0 := by
 cases o with
 | some xs => exact ⟨some (xs ++ List.replicate k 0), fun st => app_zeros (by simpa [ol] using h), rfl⟩
 | none =>
  have hm : ∀ st : St, moreA Try.prog st.S 5 3 (.int .i64 k) = some ((List.replicate k (0 : UInt8)).map byteRow) := fun st => by
   unfold moreA
   simp only [Try.underlying3, tyzero5]
   rw [if_pos (by refine ⟨by omega, by omega, by rw [tycells5]; rfl, ?_⟩; rw [tybytes5]; omega)]
   simp [List.map_replicate, zeroRow]
  cases k with
  | zero => exact ⟨none, fun st => app_more Try.underlying28 tyzero5 (by rw [tycells5]; rfl) (hm st) (by simp [appInline, sv]), rfl⟩
  | succ k =>
   refine ⟨some (List.replicate (k + 1) 0), fun st => app_more Try.underlying28 tyzero5 (by rw [tycells5]; rfl) (hm st) ?_, by simp [ol]⟩
   have hb : ¬ bigA Try.prog 5 ((List.replicate (k + 1) (0 : UInt8)).map byteRow).length := not_big _ (by simp; omega)
   rw [sv_none, sv_some]
   rw [List.replicate_succ, List.map_cons] at hb ⊢
   simp only [appInline]
   rw [if_neg hb, tycells5]
theorem app_svB_sv {st : St} {own : Bool} {o b : Option (List UInt8)} (hb : 0 < (ol b).length) (h : (ol o).length + (ol b).length < 2 ^ 40) : appendS Try.prog 1 28 28 (sv true 1 byteRow o) (sv own 1 byteRow b) st = some (.val (sv true 1 byteRow (some (ol o ++ ol b))) st) := by
 cases o with
 | some xs => exact app_svB (by simpa [ol] using h)
 | none =>
  cases b with
  | none => simp [ol] at hb
  | some bs =>
   cases bs with
   | nil => simp [ol] at hb
   | cons c bs =>
    have hbg : ¬ bigA Try.prog 5 ((c :: bs).map byteRow).length := not_big _ (by simp [ol] at h ⊢; omega)
    have hm : moreA Try.prog st.S 5 28 (sv own 1 byteRow (some (c :: bs))) = some ((c :: bs).map byteRow) := by
     rw [more_slice Try.underlying28 (by simp)]
     simp [sv_some, rowsIn, rowsOf]
    refine app_more Try.underlying28 tyzero5 (by rw [tycells5]; rfl) hm ?_
    rw [sv_none, sv_some]
    simp only [ol, Option.getD_none, Option.getD_some, List.nil_append]
    rw [List.map_cons] at hbg ⊢
    simp only [appInline]
    rw [if_neg hbg, tycells5]
def pflatV (f : FileV) (ys : List SymV) : AV := if rightOk f then .tup [.agg [sv false 1 byteRow (flatO (ol f.parts)), sv false 2 symRow (optL ys)], .int .i64 0] else errF
structure FlatInv (f : FileV) (S5 : Sto) (w y : Nat) (r : ALoop) (k : Nat) (S1 : Sto) : Prop where
 g : Grew [w, y] S5 S1
 w : S1.get w = some (.cells [sv true 1 byteRow (flatO ((ol f.parts).take k)), .nilsl])
 y : S1.get y = some (.loop r)
theorem flat_run {n : Nat} (f : FileV) (h : Small f n) (hk : SOK S) (hm80 : (ol f.names).length ≤ 80) :
  ∃ ys S', runFn Try.prog (handler Try.prog ppol (n + 10)) (n + 10) ppol 16 .none [.agg (fileC f)] S = some (.ret (pflatV f ys), .none, S') ∧ Grew [] S S' ∧ Sorted (fun x y => placesC x y < 0) (ol f.names) ys := by
 have hbig := h.big
 obtain ⟨a, ha⟩ : ∃ a, S.next = a := ⟨_, rfl⟩
 obtain ⟨S1, hS1⟩ : ∃ S1, (S.new (.cells [.nilsl, .nilsl])).new (.cells [.int .i64 0]) = S1 := ⟨_, rfl⟩
 have g01 : Grew [] S S1 := by rw [← hS1]; exact (Grew.new _ _ _ (by simp)).trans (Grew.new _ _ _ (by simp))
 have hn1 : S1.next = a + 2 := by rw [← hS1, ← ha]; rfl
 have ha1 : S1.get a = some (.cells [.nilsl, .nilsl]) := by rw [← hS1, ← ha]; simp
 have hb1 : S1.get (a + 1) = some (.cells [.int .i64 0]) := by rw [← hS1, ← ha]; simp
 obtain ⟨S2, c2, g12⟩ := right_call (n := n + 4) (S := S1) f (h.up (by omega))
 have ha2 := (g12.get a (by omega) (by simp)).trans ha1
 have hb2 := (g12.get (a + 1) (by omega) (by simp)).trans hb1
 have hn2 := g12.next
 have g02 := g01.trans g12
 rw [runFn_eq Try.func16 (by rfl)]
 unfold pflatV
 cases hok : rightOk f <;> rw [hok] at c2
 ·-- the names are not asked for: any order will do
  obtain ⟨Sx, ys, -, -, hys⟩ := Sy.ordP_call (S := S2) (n := n + 10) places_ok f.names (by omega) (by omega) (g02.sok hk)
  have h2' : (S2.put a (.cells [.nilsl, .nilsl])).get (a + 1) = some (.cells [.int .i64 0]) := by rw [get_put_ne (by omega)]; exact hb2
  have b1 := caught_pan (n := n + 9) (S := S2) 50 [.ptr a 0] 310 (clear50_call (n := n + 8) ha2 rfl) h2'
  have b2 : ((S2.put a (.cells [.nilsl, .nilsl])).put (a + 1) (.cells [.int .i64 310])).get a = some (.cells [.nilsl, .nilsl]) := by rw [get_put_ne (by omega)]; exact get_put_self ha2
  have b3 := get_put_self (o := .cells [.int .i64 310]) h2'
  have b4 : Grew [a, a + 1] S2 ((S2.put a (.cells [.nilsl, .nilsl])).put (a + 1) (.cells [.int .i64 310])) := (Grew.put _ _ (.inl (by simp)) (by simp)).trans (Grew.put _ _ (.inl (by simp)) (by simp))
  refine ⟨ys, _, ?_, g02.behind b4 (by simp; omega), hys⟩
  simp [Try.f16, ha, hS1, c2, errPan, b1, b2, b3, takeCells_eq, isAggV, errF, put_self b2, put_self b3]
 obtain ⟨hsz1, hsz2⟩ := rightOk_sizes hok
 have hpb := rightOk_parts hok
 obtain ⟨v, S5, c3, g25, hc5, hlt5, hv5⟩ := parts_call (n := n + 2) (S := S2) f (h.up (by omega)) (g02.sok hk)
 have ha5 := (g25.get a (by omega) (by simp)).trans ha2
 have hb5 := (g25.get (a + 1) (by omega) (by simp)).trans hb2
 have hn5 := g25.next
 rw [okParts_ok hok] at hv5
 obtain ⟨c, hc⟩ : ∃ c, S2.next = c := ⟨_, rfl⟩
 rw [hc] at c3 hc5 hlt5 hv5 hn5
 simp [Try.f16, ha, hS1, c2, c3]
 generalize hr : loopOf _ _ _ _ _ _ _ = r
 have hra := congrArg ALoop.assign hr
 have hrb := congrArg ALoop.body hr
 have hre := congrArg ALoop.env hr
 have hrf := congrArg ALoop.fn hr
 have hrp := congrArg ALoop.params hr
 have hrs := congrArg ALoop.state hr
 have hrn := congrArg ALoop.pending hr
 simp [loopOf] at hra hrb hre hrf hrp hrs hrn
 clear hr
 obtain ⟨y, hyid⟩ : ∃ y, S5.next + 1 = y := ⟨_, rfl⟩
 obtain ⟨S6, hS6⟩ : ∃ S6, (S5.new .deferred).new (.loop r) = S6 := ⟨_, rfl⟩
 have hg56 : Grew [] S5 S6 := by rw [← hS6]; exact (Grew.new _ _ _ rfl).trans (Grew.new _ _ _ rfl)
 have hn6 : S6.next = S5.next + 2 := by rw [← hS6]; rfl
 have hy6 : S6.get y = some (.loop r) := by rw [← hS6, ← hyid]; simp
 have hd6 : S6.get S5.next = some .deferred := by rw [← hS6]; simp
 have ha6 := (hg56.get a (by omega) (by simp)).trans ha5
 have hb6 := (hg56.get (a + 1) (by omega) (by simp)).trans hb5
 have hc6 := (hg56.get c (by omega) (by simp)).trans hc5
 have hk6 : SOK S6 := hg56.sok (g25.sok (g02.sok hk))
 obtain ⟨S7, e4, hI7⟩ := partsGo_run (n := n + 8) (N := n + 9) (S := S6) (y := y) (FlatInv f S6 a y r) (fun _ => False) hc6 (by omega) (by omega) (fun p hp => by have := pBad_each hpb p hp; omega)
  ⟨Grew.refl _ _, by simpa [flatO, sv_none] using ha6, hy6⟩
  (fun k S' hI => ⟨hI.g.sok hk6, hv5.mono ((hg56.mono' (by simp)).trans hI.g) (fun b hb => by simp only [List.mem_cons, List.not_mem_nil, or_false] at hb; omega)⟩)
  (fun k p S' hI hp => by
   have hpo := pBad_at (x := 0) hpb hp
   have hlen := flatB_len hpb k
   have hlast := lastN_le hpb k
   have hge := hpo.ge
   have hat := hpo.at'
   have hple := hpo.le
   have hpos := hpo.pos
   unfold endN plen at hple
   unfold plen at hpos
   obtain ⟨o, ho⟩ : ∃ o, flatO ((ol f.parts).take k) = o := ⟨_, rfl⟩
   have hoo : ol o = flatB ((ol f.parts).take k) := by rw [← ho, ol_flatO]
   have hol : (ol o).length = lastN 0 ((ol f.parts).take k) := by rw [hoo, hlen]
   have hnext : flatO ((ol f.parts).take (k + 1)) = some (flatStep (ol o) p) := by
    rw [take_snoc hp, hoo, ← flatB_snoc]; unfold flatO; rw [if_neg (by simp)]
   have hwk := hI.w
   rw [ho] at hwk
   obtain ⟨Sb, hSb⟩ : ∃ Sb, S'.put y (.loop { r with state := .busy }) = Sb := ⟨_, rfl⟩
   have hwb : Sb.get a = some (.cells [sv true 1 byteRow o, .nilsl]) := by rw [← hSb, get_put_ne (by omega)]; exact hwk
   have hyb : Sb.get y = some (.loop { r with state := .busy }) := by rw [← hSb]; exact get_put_self hI.y
   have hsub : IntKind.i64.wrap ((atN p : Int) - ((ol o).length : Int)) = ((atN p - (ol o).length : Nat) : Int) := by
    rw [show (atN p : Int) - ((ol o).length : Int) = ((atN p - (ol o).length : Nat) : Int) by omega]; exact Go.IntWalk.i64_in _ (by omega)
   obtain ⟨o', e1, ho'⟩ := app_zeros_sv (o := o) (k := atN p - (ol o).length) (by omega)
   have hol' : (ol o').length = atN p := by rw [ho']; simp; omega
   have e2 := fun st own => app_svB_sv (st := st) (own := own) (o := o') (b := p.bytes) hpos (by omega)
   rw [show ol o' ++ ol p.bytes = flatStep (ol o) p by rw [ho']; simp [flatStep]] at e2
   have hrr : ({ state := .ready, pending := none, fn := r.fn, env := r.env, params := r.params, assign := r.assign, body := r.body, defers := r.defers } : ALoop) = r := by
    obtain ⟨x1, x2, x3, x4, x5, x6, x7, x8⟩ := r
    simp only at hrs hrn
    subst hrs hrn
    rfl
   refine ⟨true, (Sb.put a (.cells [sv true 1 byteRow (some (flatStep (ol o) p)), .nilsl])).put y (.loop r), ?_, fun _ => ?_, fun hf => absurd hf (by simp)⟩
   ·rw [call_yield, yield_eq hI.y (by rw [← hrp]; rfl) (by rw [← hrf]; rfl)]
    rw [← hra, ← hre, ← hrf, ← hrp]
    simp
    rw [yBody_normal hI.y hrs.symm, hSb, ← hrb, ← hrf]
    have hne1 : y ≠ a := by omega
    generalize flatStep (ol o) p = R at *
    simp [hwb, get_put_self hwb, hat, hsub, e1, e2, takeCells_eq, writeCells]
    rw [yFin_normal (r := { r with state := .busy }) (by simp [get_put_ne, hne1, hyb])]
    simp [hrr]
   ·have hne1 : a ≠ y := by omega
    have gb : Grew [a, y] S' Sb := by rw [← hSb]; exact Grew.put _ _ (.inl (by simp)) rfl
    refine ⟨((hI.g.trans gb).trans (Grew.put _ _ (.inl (by simp)) (by rw [good_cells]; simp [same_sv true 1 goodBytes]))).trans (Grew.put _ _ (.inl (by simp)) rfl), ?_, ?_⟩
    ·rw [get_put_ne hne1, get_put_self hwb, hnext]
    ·exact get_put_self (o' := .loop { r with state := .busy }) (by rw [get_put_ne (by omega)]; exact hyb))
 obtain hI7 | hI7 := hI7
 rotate_left
 ·exact hI7.elim
 have hcall : (handler Try.prog ppol (n + 10)).call (.func 53) [.yld y, .ptr c 0] S6 = some (.ret .undef, S7) := by
  rw [call_func (by rfl), e4]; rfl
 have hrg := fun st defs => rgEnd_ret (st := st) (defs := defs) (v := .undef) hI7.y hrs.symm hrn.symm
 have hw7 := hI7.w
 rw [List.take_of_length_le (Nat.le_refl _)] at hw7
 obtain ⟨B, hB⟩ : ∃ B, flatO (ol f.parts) = B := ⟨_, rfl⟩
 rw [hB] at hw7 ⊢
 obtain ⟨S8, hS8⟩ : ∃ S8, S7.drop y = S8 := ⟨_, rfl⟩
 have hg68 : Grew [a, y] S6 S8 := by rw [← hS8]; exact hI7.g.trans (Grew.drop _ (.inl (by simp)))
 have ha8 : S8.get a = some (.cells [sv true 1 byteRow B, .nilsl]) := by rw [← hS8, get_drop_ne (by omega)]; exact hw7
 have hb8 : S8.get (a + 1) = some (.cells [.int .i64 0]) := (hg68.get (a + 1) (by omega) (by simp; omega)).trans hb6
 have hd8 : S8.get S5.next = some .deferred := (hg68.get S5.next (by omega) (by simp; omega)).trans hd6
 have hn8 := hg68.next
 obtain ⟨S9, ys, c9, g89, hys⟩ := Sy.ordP_call (S := S8) (n := n + 10) places_ok f.names (by omega) (by omega) (hg68.sok hk6)
 have ha9 := (g89.get a (by omega) (by simp)).trans ha8
 have hb9 := (g89.get (a + 1) (by omega) (by simp)).trans hb8
 have hd9 := (g89.get S5.next (by omega) (by simp)).trans hd8
 have hn9 := g89.next
 obtain ⟨SA, hSA⟩ : ∃ SA, S9.put a (.cells [sv true 1 byteRow B, sv false 2 symRow (optL ys)]) = SA := ⟨_, rfl⟩
 have haA : SA.get a = some (.cells [sv true 1 byteRow B, sv false 2 symRow (optL ys)]) := by rw [← hSA]; exact get_put_self ha9
 have gA : Grew [a] S9 SA := by rw [← hSA]; exact Grew.put _ _ (.inl (by simp)) (by rw [good_cells]; simp [same_sv true 1 goodBytes, same_sv false 2 goodSym])
 obtain ⟨SB, hSB⟩ : ∃ SB, SA.put a (.cells [sv false 1 byteRow B, sv false 2 symRow (optL ys)]) = SB := ⟨_, rfl⟩
 have haB : SB.get a = some (.cells [sv false 1 byteRow B, sv false 2 symRow (optL ys)]) := by rw [← hSB]; exact get_put_self haA
 have gB : Grew [a] SA SB := by rw [← hSB]; exact Grew.put _ _ (.inl (by simp)) (by rw [good_cells]; simp [same_sv false 1 goodBytes, same_sv false 2 goodSym])
 have hbB : SB.get (a + 1) = some (.cells [.int .i64 0]) := by rw [← hSB, get_put_ne (by omega), ← hSA, get_put_ne (by omega)]; exact hb9
 have hdB : SB.get S5.next = some .deferred := by rw [← hSB, get_put_ne (by omega), ← hSA, get_put_ne (by omega)]; exact hd9
 have hself1 : SB.put (a + 1) (.cells [.int .i64 0]) = SB := put_self hbB
 obtain ⟨SC, hSC⟩ : ∃ SC, SB.drop S5.next = SC := ⟨_, rfl⟩
 have haC : SC.get a = some (.cells [sv false 1 byteRow B, sv false 2 symRow (optL ys)]) := by rw [← hSC, get_drop_ne (by omega)]; exact haB
 have hbC : SC.get (a + 1) = some (.cells [.int .i64 0]) := by rw [← hSC, get_drop_ne (by omega)]; exact hbB
 have gC : Grew [S5.next] SB SC := by rw [← hSC]; exact Grew.drop _ (.inl (by simp))
 have hself2 : SC.put a (.cells [sv false 1 byteRow B, sv false 2 symRow (optL ys)]) = SC := put_self haC
 have hself3 : SC.put (a + 1) (.cells [.int .i64 0]) = SC := put_self hbC
 have hq := fun S' => caught_ret (n := n + 9) (S := S') _ (a + 1) 50 [] [.ptr a 0] rfl
 have gS : Grew [] S SC := (((((((g02.trans g25).trans hg56).behind hg68 (by simp; omega)).trans g89).behind gA (by simp; omega)).behind gB (by simp; omega)).behind gC (by simp; omega))
 refine ⟨ys, SC, ?_, gS, hys⟩
 simp [hyid, hS6, hcall, hrg, hS8, c9, ha9, hSA, haA, hSB, hbB, hself1, hdB, hSC, hq, haC, hbC, hself2, hself3, takeCells_eq, isAggV, writeCells]
end Go.Ab.Seat
namespace Go.Ab.Seat
open Go.Proofs Srt
set_option maxRecDepth 100000
section
variable {X : Type}
theorem putIn_perm (p : X → Bool) (ys : List X) (x : X) : (putIn p ys x).Perm (x :: ys) := by
 unfold putIn
 refine List.perm_middle.trans ?_
 rw [List.take_append_drop]
theorem foldl_perm (q : X → X → Bool) : ∀ (xs ys : List X), (xs.foldl (fun ys x => putIn (fun y => q y x) ys x) ys).Perm (ys ++ xs)
 | [], ys => by simp
 | x :: xs, ys => by
  rw [List.foldl_cons]
  refine (foldl_perm q xs _).trans ?_
  refine ((putIn_perm _ ys x).append_right xs).trans ?_
  exact List.perm_middle.symm
theorem mem_take_get {ys : List X} {m : Nat} {y : X} (h : y ∈ ys.take m) : ∃ j, j < m ∧ ys[j]? = some y := by
 obtain ⟨j, hj⟩ := List.mem_iff_getElem?.1 h
 rw [List.getElem?_take] at hj
 split at hj
 ·rename_i hlt; exact ⟨j, hlt, hj⟩
 ·cases hj
theorem drop_all {lt : X → X → Prop} (w : WO lt) {ys : List X} {x : X} {m : Nat} (hs : ys.Pairwise fun a b => ¬ lt b a) (h : ∀ y, ys[m]? = some y → ¬ lt y x) : ∀ b ∈ ys.drop m, ¬ lt b x := by
 intro b hb
 by_cases hm : m < ys.length
 ·rw [List.drop_eq_getElem_cons hm] at hb
  have h0 := h ys[m] (List.getElem?_eq_getElem hm)
  rcases List.mem_cons.1 hb with rfl | hb
  ·exact h0
  ·have hs' : (ys.drop m).Pairwise fun a b => ¬ lt b a := hs.sublist (List.drop_sublist _ _)
   rw [List.drop_eq_getElem_cons hm] at hs'
   exact w.nt _ _ _ ((List.pairwise_cons.1 hs').1 b hb) h0
 ·rw [List.drop_eq_nil_of_le (by omega)] at hb; cases hb
theorem putIn_sorted {lt : X → X → Prop} (w : WO lt) {p : X → Bool} {ys : List X} {x : X} (hp : ∀ y, p y = true ↔ lt y x) (hs : ys.Pairwise fun a b => ¬ lt b a) : (putIn p ys x).Pairwise fun a b => ¬ lt b a := by
 have h0 : ∀ y, ys[spot p ys]? = some y → ¬ lt y x := fun y hy hl => by
  have := spot_no p hy
  rw [(hp y).2 hl] at this; cases this
 have hd := drop_all w hs h0
 have ht : ∀ a ∈ ys.take (spot p ys), lt a x := fun a ha => by
  obtain ⟨j, hj, hy⟩ := mem_take_get ha
  exact (hp a).1 (spot_yes p hj hy)
 unfold putIn
 rw [List.pairwise_append]
 refine ⟨hs.sublist (List.take_sublist _ _), List.pairwise_cons.2 ⟨hd, hs.sublist (List.drop_sublist _ _)⟩, fun a ha b hb => ?_⟩
 rcases List.mem_cons.1 hb with rfl | hb
 ·exact fun h => w.irr _ (w.tr _ _ _ (ht a ha) h)
 ·have := hs
  rw [← List.take_append_drop (spot p ys) ys, List.pairwise_append] at this
  exact this.2.2 a ha b hb
end
theorem names_strict {l : List SymV} (h : namesOk l = true) : l.Pairwise fun a b => bl a.name b.name := by
 have step : ∀ k a b, l[k]? = some a → l[k + 1]? = some b → bl a.name b.name := fun k a b ha hb => by
  unfold namesOk at h
  rw [List.all_eq_true] at h
  have := h (k + 1) (List.mem_range.2 (List.getElem?_eq_some_iff.1 hb).1)
  unfold nmAt at this
  rw [hb] at this
  simp only [Nat.add_sub_cancel, ha, Bool.and_eq_true, Bool.or_eq_true, decide_eq_true_eq] at this
  rcases this.2 with h | h
  ·omega
  ·exact h
 have far : ∀ d k a b, l[k]? = some a → l[k + d + 1]? = some b → bl a.name b.name := by
  intro d
  induction d with
  | zero => intro k a b ha hb; exact step k a b ha hb
  | succ d ih =>
   intro k a b ha hb
   obtain ⟨c, hc⟩ : ∃ c, l[k + d + 1]? = some c := ⟨_, List.getElem?_eq_getElem (by have := (List.getElem?_eq_some_iff.1 hb).1; omega)⟩
   exact bl_tr _ _ _ (ih k a c ha hc) (step (k + d + 1) c b hc (by rw [← hb]; congr 1))
 rw [List.pairwise_iff_getElem]
 intro i j hi hj hij
 exact far (j - i - 1) i _ _ (List.getElem?_eq_getElem hi) (by rw [show i + (j - i - 1) + 1 = j by omega]; exact List.getElem?_eq_getElem hj)
theorem strict_inj : ∀ {l : List SymV}, (l.Pairwise fun a b => bl a.name b.name) → ∀ a ∈ l, ∀ b ∈ l, a.name = b.name → a = b
 | [], _, a, ha, _, _, _ => by cases ha
 | c :: l, h, a, ha, b, hb, e => by
  rw [List.pairwise_cons] at h
  have irr : ∀ s : List UInt8, ¬ bl s s := fun s h => by unfold bl at h; rw [bl_irr] at h; cases h
  rcases List.mem_cons.1 ha with ha' | ha' <;> rcases List.mem_cons.1 hb with hb' | hb'
  ·rw [ha', hb']
  ·have := h.1 b hb'
   rw [← ha', e] at this
   exact absurd this (irr _)
  ·have := h.1 a ha'
   rw [← hb', e] at this
   exact absurd this (irr _)
  ·exact strict_inj h.2 a ha' b hb' e
theorem same_order {ys zs : List SymV} (p : ys.Perm zs) (hy : ys.Pairwise fun a b => ¬ bl b.name a.name) (hz : zs.Pairwise fun a b => ¬ bl b.name a.name) (hs : zs.Pairwise fun a b => bl a.name b.name) : ys = zs :=
 List.Perm.eq_of_pairwise (le := fun a b : SymV => ¬ bl b.name a.name) (fun a b ha hb h1 h2 => by
  have hname : a.name = b.name := by
   rcases bl_tri a.name b.name with h | h | h
   ·exact absurd h h2
   ·exact h
   ·exact absurd h h1
  exact strict_inj hs a (by first | exact ha | exact p.mem_iff.1 ha) b (by first | exact hb | exact p.mem_iff.1 hb) hname) hy hz p
theorem namesWO : WO fun x y : SymV => bl x.name y.name := bl_wo.on _
theorem rightOk_ol {f g : FileV} (h1 : ol f.parts = ol g.parts) (h2 : ol f.names = ol g.names) : rightOk f = rightOk g := by
 unfold rightOk sizesOk; rw [h1, h2]
end Go.Ab.Seat
namespace Go.Ab.Seat
open Go.Proofs Srt
set_option maxRecDepth 100000
set_option maxHeartbeats 4000000
variable {H : Handler} {N : Nat} {S : Sto}
theorem flat_callN (f : FileV) (h : Small f 6500) (hm : (ol f.names).length ≤ 80) (hN : 7000 < N) (hk : SOK S) :
  ∃ ys S', (handler Try.prog ppol N).call (.func 16) [.agg (fileC f)] S = some (.ret (pflatV f ys), S') ∧ Grew [] S S' ∧ Sorted (fun x y => placesC x y < 0) (ol f.names) ys := by
 obtain ⟨n, rfl⟩ : ∃ n, N = n + 11 := ⟨N - 11, by omega⟩
 obtain ⟨ys, S', e, h⟩ := flat_run (n := n) (S := S) f (h.up (by omega)) hk hm
 exact ⟨ys, S', by rw [call_func (by rfl), e]; rfl, h⟩
def noneF : FileV := ⟨none, none⟩
theorem SameF.of {a b : FileV} (h1 : ol a.parts = ol b.parts) (h2 : ol a.names = ol b.names) : SameF a b :=
 ⟨by rw [h1], fun k p q hp hq => by rw [h1, hq] at hp; cases hp; exact ⟨rfl, rfl⟩, h2⟩
end Go.Ab.Seat
namespace Go.Ab.Seat
open Go.Proofs Srt
set_option maxRecDepth 100000
def Part0 (p : PartV) : Prop := p.at' = (atN p : Int) ∧ endI p = (endN p : Int) ∧ 0 < plen p
theorem Part0.lt {p : PartV} (h : Part0 p) : atN p < endN p := by have := h.2.2; unfold endN; omega
theorem valid_each {l : List PartV} (h : pBad 0 l = false) : ∀ p ∈ l, Part0 p := by
 intro p hp
 obtain ⟨k, hk⟩ := List.mem_iff_getElem?.1 hp
 have hpo := pBad_at (x := 0) h hk
 refine ⟨hpo.at', ?_, hpo.pos⟩
 have : pBad ((0 : Nat) : Int) l = false := h
 have h2 : ∀ {l : List PartV} {x : Nat}, pBad (x : Int) l = false → ∀ p ∈ l, endI p = (endN p : Int) := by
  intro l
  induction l with
  | nil => intro x _ p hp; cases hp
  | cons q l ih =>
   intro x h p hp
   simp only [pBad, Bool.or_eq_false_iff] at h
   obtain ⟨_, he⟩ := badP_no h.1
   rcases List.mem_cons.1 hp with rfl | hp
   ·exact he
   ·rw [he] at h; exact ih h.2 p hp
 exact h2 this p hp
theorem valid_pair {l : List PartV} (h : pBad 0 l = false) : l.Pairwise fun p q => endN p ≤ atN q := by
 have far : ∀ d k p q, l[k]? = some p → l[k + d + 1]? = some q → endN p ≤ atN q := by
  intro d
  induction d with
  | zero =>
   intro k p q hp hq
   have := (pBad_at (x := 0) h hq).ge
   rw [show k + 0 + 1 = k + 1 by omega, take_snoc hp, lastN_snoc] at this
   exact this
  | succ d ih =>
   intro k p q hp hq
   obtain ⟨c, hc⟩ : ∃ c, l[k + d + 1]? = some c := ⟨_, List.getElem?_eq_getElem (by have := (List.getElem?_eq_some_iff.1 hq).1; omega)⟩
   have h1 := ih k p c hp hc
   have h2 := (pBad_at (x := 0) h hq).ge
   rw [show k + (d + 1) + 1 = (k + d + 1) + 1 by omega, take_snoc hc, lastN_snoc] at h2
   have := (valid_each h c (List.mem_of_getElem? hc)).lt
   omega
 rw [List.pairwise_iff_getElem]
 intro i j hi hj hij
 exact far (j - i - 1) i _ _ (List.getElem?_eq_getElem hi) (by rw [show i + (j - i - 1) + 1 = j by omega]; exact List.getElem?_eq_getElem hj)
def ov (p q : PartV) : Bool := decide (p.at' < endI q) && decide (q.at' < endI p)
def dis (p q : PartV) : Prop := endN p ≤ atN q ∨ endN q ≤ atN p
theorem ov_dis {p q : PartV} (hp : Part0 p) (hq : Part0 q) : ov p q = false ↔ dis p q := by
 obtain ⟨p1, p2, p3⟩ := hp
 obtain ⟨q1, q2, q3⟩ := hq
 unfold ov dis
 rw [p1, p2, q1, q2]
 simp only [Bool.and_eq_false_iff, decide_eq_false_iff_not]
 omega
def adjAt (l : List PartV) (i : Nat) : Bool := match l[i]? with
 | some q => decide (i = 0) || (match l[i - 1]? with | some p => decide (endI p ≤ q.at') | none => true)
 | none => true
def adjOk (l : List PartV) : Bool := (List.range l.length).all (adjAt l)
theorem adj_all {l : List PartV} (h : ∀ j, j < l.length → adjAt l j = true) : adjOk l = true := by
 unfold adjOk; rw [List.all_eq_true]; intro j hj; exact h j (List.mem_range.1 hj)
theorem adj_step {l : List PartV} (h : adjOk l = true) {k : Nat} {p q : PartV} (hp : l[k]? = some p) (hq : l[k + 1]? = some q) : endI p ≤ q.at' := by
 unfold adjOk at h
 rw [List.all_eq_true] at h
 have := h (k + 1) (List.mem_range.2 (List.getElem?_eq_some_iff.1 hq).1)
 unfold adjAt at this
 rw [hq] at this
 simp only [Nat.add_sub_cancel, hp, Bool.or_eq_true, decide_eq_true_eq] at this
 rcases this with h | h
 ·omega
 ·exact h
theorem adj_pair {l : List PartV} (h0 : ∀ p ∈ l, Part0 p) (h : adjOk l = true) : l.Pairwise fun p q => endN p ≤ atN q := by
 have far : ∀ d k p q, l[k]? = some p → l[k + d + 1]? = some q → endN p ≤ atN q := by
  intro d
  induction d with
  | zero =>
   intro k p q hp hq
   have := adj_step h hp hq
   rw [(h0 p (List.mem_of_getElem? hp)).2.1, (h0 q (List.mem_of_getElem? hq)).1] at this
   omega
  | succ d ih =>
   intro k p q hp hq
   obtain ⟨c, hc⟩ : ∃ c, l[k + d + 1]? = some c := ⟨_, List.getElem?_eq_getElem (by have := (List.getElem?_eq_some_iff.1 hq).1; omega)⟩
   have h1 := ih k p c hp hc
   have h2 := adj_step h hc (by rw [← hq]; congr 1)
   have hc0 := h0 c (List.mem_of_getElem? hc)
   rw [hc0.2.1, (h0 q (List.mem_of_getElem? hq)).1] at h2
   have := hc0.lt
   omega
 rw [List.pairwise_iff_getElem]
 intro i j hi hj hij
 exact far (j - i - 1) i _ _ (List.getElem?_eq_getElem hi) (by rw [show i + (j - i - 1) + 1 = j by omega]; exact List.getElem?_eq_getElem hj)
theorem pair_adj {l : List PartV} (h0 : ∀ p ∈ l, Part0 p) (h : l.Pairwise fun p q => endN p ≤ atN q) : adjOk l = true := by
 refine adj_all fun j hj => ?_
 unfold adjAt
 rw [List.getElem?_eq_getElem hj]
 by_cases hz : j = 0
 ·simp [hz]
 ·have hj1 : j - 1 < l.length := by omega
  simp only [List.getElem?_eq_getElem hj1, hz, decide_false, Bool.false_or, decide_eq_true_eq]
  have := (List.pairwise_iff_getElem.1 h) (j - 1) j hj1 hj (by omega)
  rw [(h0 _ (List.getElem_mem hj1)).2.1, (h0 _ (List.getElem_mem hj)).1]
  omega
theorem dis_symm {p q : PartV} (h : dis p q) : dis q p := h.symm
theorem liesWO : WO fun x y : PartV => x.at' < y.at' := int_wo.on _
theorem join_adj {A B C : List PartV} (hA : pBad 0 A = false) (hB : pBad 0 B = false) (hp : C.Perm (A ++ B)) (hs : C.Pairwise fun x y => ¬ y.at' < x.at') :
  adjOk C = true ↔ ∀ a ∈ A, ∀ b ∈ B, ov a b = false := by
 have a0 := valid_each hA
 have b0 := valid_each hB
 have c0 : ∀ p ∈ C, Part0 p := fun p h => by
  rcases List.mem_append.1 (hp.mem_iff.1 h) with h | h
  ·exact a0 p h
  ·exact b0 p h
 constructor
 ·intro h a ha b hb
  have h1 : C.Pairwise dis := (adj_pair c0 h).imp fun h => .inl h
  have h2 : (A ++ B).Pairwise dis := (hp.pairwise_iff (fun {x y} h => dis_symm h)).1 h1
  rw [ov_dis (a0 a ha) (b0 b hb)]
  exact (List.pairwise_append.1 h2).2.2 a ha b hb
 ·intro h
  have h2 : (A ++ B).Pairwise dis := by
   rw [List.pairwise_append]
   exact ⟨(valid_pair hA).imp fun h => .inl h, (valid_pair hB).imp fun h => .inl h, fun a ha b hb => (ov_dis (a0 a ha) (b0 b hb)).1 (h a ha b hb)⟩
  have h1 : C.Pairwise dis := (hp.pairwise_iff (fun {x y} h => dis_symm h)).2 h2
  refine pair_adj c0 ?_
  rw [List.pairwise_iff_getElem] at h1 hs ⊢
  intro i j hi hj hij
  have e1 := h1 i j hi hj hij
  have e2 := hs i j hi hj hij
  have p0 := c0 _ (List.getElem_mem hi)
  have q0 := c0 _ (List.getElem_mem hj)
  rw [p0.1, q0.1] at e2
  have := q0.lt
  rcases e1 with h | h
  ·exact h
  ·omega
end Go.Ab.Seat
namespace Go.Ab.Seat
open Go.Proofs Srt
set_option maxRecDepth 100000
set_option maxHeartbeats 8000000
variable {H : Handler} {N : Nat} {S : Sto}
def clearP (B : List PartV) (a : PartV) : Bool := B.all fun b => !ov a b
def clearN (B : List SymV) (a : SymV) : Bool := B.all fun b => !(a.name == b.name)
def dAt (m : Nat) : Nat → AV
 | 0 => .undef
 | _ + 1 => .int .i64 m
theorem spot_all {X : Type} {p : X → Bool} : ∀ {l : List X}, spot p l = l.length → ∀ x ∈ l, p x = true
 | [], _, x, hx => by cases hx
 | a :: l, h, x, hx => by
  simp only [spot, List.length_cons] at h
  split at h
  ·rename_i ha
   rcases List.mem_cons.1 hx with rfl | hx
   ·exact ha
   ·exact spot_all (by omega) x hx
  ·omega
theorem spot_lt {X : Type} {p : X → Bool} {l : List X} (h : ∃ x ∈ l, p x = false) : spot p l < l.length := by
 have h1 := spot_le p l
 rcases Nat.lt_or_ge (spot p l) l.length with h2 | h2
 ·exact h2
 ·obtain ⟨x, hx, hp⟩ := h
  rw [spot_all (p := p) (l := l) (by omega) x hx] at hp; cases hp
theorem ovE (a b : PartV) : (decide (a.at' < IntKind.i64.wrap (b.at' + (ol b.bytes).length)) && decide (b.at' < IntKind.i64.wrap (a.at' + (ol a.bytes).length))) = ov a b := rfl
theorem clear_no {B : List PartV} {a : PartV} (h : clearP B a = true) {j : Nat} {b : PartV} (hb : B[j]? = some b) : ov a b = false := by
 unfold clearP at h
 rw [List.all_eq_true] at h
 simpa using h b (List.mem_of_getElem? hb)
theorem clear_noN {B : List SymV} {a : SymV} (h : clearN B a = true) {j : Nat} {b : SymV} (hb : B[j]? = some b) : (a.name == b.name) = false := by
 unfold clearN at h
 rw [List.all_eq_true] at h
 have := h b (List.mem_of_getElem? hb)
 cases hc : a.name == b.name with
 | false => rfl
 | true => rw [hc] at this; cases this
theorem cend_of {n : Nat} (hn : 0 < n) (a : Int) (o : Option (List UInt8)) (own : Bool) : (handler Try.prog ppol n).call (.func 17) [.agg [.int .i64 a, sv own 1 byteRow o]] S = some (.ret (.int .i64 (IntKind.i64.wrap (a + (ol o).length))), S) := by
 obtain ⟨m, rfl⟩ : ∃ m, n = m + 1 := ⟨n - 1, by omega⟩
 exact refEnd_call a o own
theorem joinA {n : Nat} (A B : FileV) (hA : (ol A.parts).length ≤ 80) (hB : (ol B.parts).length ≤ 80) (hNA : (ol A.names).length ≤ 80) (hNB : (ol B.names).length ≤ 80) (hN : 200 < N) (hok : rightOk A = true) (hokB : rightOk B = true) (hs1 : Small A 6500) (hs2 : Small B 6500) (hn : 6600 < n) (hk0 : SOK S)
  (hov : ∃ a ∈ ol A.parts, clearP (ol B.parts) a = false) :
  runFn Try.prog (handler Try.prog ppol n) N ppol 15 .none [.agg (fileC A), .agg (fileC B)] S = some (.ret (.tup [.agg [.nilsl, .nilsl], .int .i64 311]), .none, S) := by
 have hckA := refCheck_callN (N := n) (S := S) A hs1 hn
 have hckB := refCheck_callN (N := n) (S := S) B hs2 hn
 unfold chk at hckA hckB
 rw [hok] at hckA
 rw [hokB] at hckB
 have cend := cend_of (S := S) (n := n) (by omega)
 have hsk := fun x => sK_self (α := AExit × St) hk0 x
 have hml := spot_lt hov
 have hyes : ∀ {i : Nat} {a : PartV}, i < spot (clearP (ol B.parts)) (ol A.parts) → (ol A.parts)[i]? = some a → clearP (ol B.parts) a = true := fun h1 h2 => spot_yes _ h1 h2
 have hno : ∀ {a : PartV}, (ol A.parts)[spot (clearP (ol B.parts)) (ol A.parts)]? = some a → clearP (ol B.parts) a = false := fun h => spot_no _ h
 generalize spot (clearP (ol B.parts)) (ol A.parts) = m at *
 obtain ⟨a, ha⟩ : ∃ a, (ol A.parts)[m]? = some a := ⟨_, List.getElem?_eq_getElem hml⟩
 have hst := hno ha
 have hex : ∃ b ∈ ol B.parts, (!ov a b) = false := by
  unfold clearP at hst
  rw [List.all_eq_false] at hst
  obtain ⟨b, hb, h⟩ := hst
  exact ⟨b, hb, by simpa using h⟩
 have hql := spot_lt (p := fun b => !ov a b) hex
 have hyes2 : ∀ {j : Nat} {b : PartV}, j < spot (fun b => !ov a b) (ol B.parts) → (ol B.parts)[j]? = some b → ov a b = false := fun h1 h2 => by
  have := spot_yes (fun b => !ov a b) h1 h2
  simpa using this
 have hno2 : ∀ {b : PartV}, (ol B.parts)[spot (fun b => !ov a b) (ol B.parts)]? = some b → ov a b = true := fun h => by
  have := spot_no (fun b => !ov a b) h
  simpa using this
 generalize spot (fun b => !ov a b) (ol B.parts) = q at *
 obtain ⟨b, hb⟩ : ∃ b, (ol B.parts)[q]? = some b := ⟨_, List.getElem?_eq_getElem hql⟩
 have hab := hno2 hb
 rw [runFn_eq Try.func15 (by rfl)]
 simp [Try.f15, hckA, hckB]
 rw [loop_go (fun k => { env := envOf 201 [(2, .box (fileC A)), (3, .box (fileC B)), (4, .box [.nilsl, .nilsl]), (6, .int .i64 k), (7, dAt (ol B.parts).length k), (8, .undef), (9, .undef), (10, .undef), (11, .undef), (12, .undef), (13, .undef), (14, .undef)], defs := [], par := .none, S := S }) m (by omega)]
 ·have hix := index_sv (own := false) (g := partRow) (k := .i64) Try.underlying22 tycells45 ha
  generalize dAt (ol B.parts).length m = dm
  simp [fileC, hml]
  rw [loop_go (fun j => { env := envOf 201 [(2, .box (fileC A)), (3, .box (fileC B)), (4, .box [.nilsl, .nilsl]), (6, .int .i64 m), (7, .int .i64 j), (8, .undef), (9, .undef), (10, .undef), (11, .undef), (12, .undef), (13, .undef), (14, .undef)], defs := [], par := .none, S := S }) q (by omega)]
  ·have hiy := index_sv (own := false) (g := partRow) (k := .i64) Try.underlying22 tycells45 hb
   rw [← ovE] at hab
   simp only [Bool.and_eq_true, decide_eq_true_eq] at hab
   obtain ⟨d1, d2⟩ := hab
   simp [fileC, hql]
   rw [evDraw_go]
   ·simp [hix, hiy, partRow, cend, hsk, d1, d2, build25, writeCells, takeCells_eq]
   ·kernel_rfl
  ·simp [fileC]
  ·intro j hj
   have hjl : j < (ol B.parts).length := by omega
   obtain ⟨e, he⟩ : ∃ e, (ol B.parts)[j]? = some e := ⟨_, List.getElem?_eq_getElem hjl⟩
   have hiy := index_sv (own := false) (g := partRow) (k := .i64) Try.underlying22 tycells45 he
   have g8 : IntKind.i64.wrap ((j : Int) + 1) = (j : Int) + 1 := wrap_succ hjl (by omega)
   have hno' : ov a e = false := hyes2 hj he
   rw [← ovE] at hno'
   simp [fileC, hjl]
   rw [evDraw_go]
   ·by_cases d1 : a.at' < IntKind.i64.wrap (e.at' + (ol e.bytes).length)
    ·have d2 : ¬ e.at' < IntKind.i64.wrap (a.at' + (ol a.bytes).length) := by simpa [d1] using hno'
     simp [hix, hiy, partRow, cend, hsk, d1, d2, g8]
    ·simp [hix, hiy, partRow, cend, hsk, d1, g8]
   ·kernel_rfl
 ·simp [fileC, dAt]
 ·intro k hk
  obtain ⟨c, hc⟩ : ∃ c, (ol A.parts)[k]? = some c := ⟨_, List.getElem?_eq_getElem (by omega)⟩
  have hkl : k < (ol A.parts).length := by omega
  have g7 : IntKind.i64.wrap ((k : Int) + 1) = (k : Int) + 1 := wrap_succ hkl (by omega)
  have hix := index_sv (own := false) (g := partRow) (k := .i64) Try.underlying22 tycells45 hc
  simp [fileC, hkl, dAt]
  rw [loop_go (fun j => { env := envOf 201 [(2, .box (fileC A)), (3, .box (fileC B)), (4, .box [.nilsl, .nilsl]), (6, .int .i64 k), (7, .int .i64 j), (8, .undef), (9, .undef), (10, .undef), (11, .undef), (12, .undef), (13, .undef), (14, .undef)], defs := [], par := .none, S := S }) (ol B.parts).length (by omega)]
  ·simp [fileC, g7]
  ·simp [fileC]
  ·intro j hj
   obtain ⟨e, he⟩ : ∃ e, (ol B.parts)[j]? = some e := ⟨_, List.getElem?_eq_getElem hj⟩
   have hiy := index_sv (own := false) (g := partRow) (k := .i64) Try.underlying22 tycells45 he
   have g8 : IntKind.i64.wrap ((j : Int) + 1) = (j : Int) + 1 := wrap_succ hj (by omega)
   have hno' : ov c e = false := clear_no (hyes hk hc) he
   rw [← ovE] at hno'
   simp [fileC, hj]
   rw [evDraw_go]
   ·by_cases d1 : c.at' < IntKind.i64.wrap (e.at' + (ol e.bytes).length)
    ·have d2 : ¬ e.at' < IntKind.i64.wrap (c.at' + (ol c.bytes).length) := by simpa [d1] using hno'
     simp [hix, hiy, partRow, cend, hsk, d1, d2, g8]
    ·simp [hix, hiy, partRow, cend, hsk, d1, g8]
   ·kernel_rfl
theorem joinN {n : Nat} (A B : FileV) (hA : (ol A.parts).length ≤ 80) (hB : (ol B.parts).length ≤ 80) (hNA : (ol A.names).length ≤ 80) (hNB : (ol B.names).length ≤ 80) (hN : 200 < N) (hok : rightOk A = true) (hokB : rightOk B = true) (hs1 : Small A 6500) (hs2 : Small B 6500) (hn : 6600 < n) (hk0 : SOK S)
  (hnoP : ∀ a ∈ ol A.parts, clearP (ol B.parts) a = true) (hdup : ∃ a ∈ ol A.names, clearN (ol B.names) a = false) :
  runFn Try.prog (handler Try.prog ppol n) N ppol 15 .none [.agg (fileC A), .agg (fileC B)] S = some (.ret (.tup [.agg [.nilsl, .nilsl], .int .i64 281]), .none, S) := by
 have hckA := refCheck_callN (N := n) (S := S) A hs1 hn
 have hckB := refCheck_callN (N := n) (S := S) B hs2 hn
 unfold chk at hckA hckB
 rw [hok] at hckA
 rw [hokB] at hckB
 have cend := cend_of (S := S) (n := n) (by omega)
 have hsk := fun x => sK_self (α := AExit × St) hk0 x
 have hml := spot_lt hdup
 have hyes : ∀ {i : Nat} {a : SymV}, i < spot (clearN (ol B.names)) (ol A.names) → (ol A.names)[i]? = some a → clearN (ol B.names) a = true := fun h1 h2 => spot_yes _ h1 h2
 have hno : ∀ {a : SymV}, (ol A.names)[spot (clearN (ol B.names)) (ol A.names)]? = some a → clearN (ol B.names) a = false := fun h => spot_no _ h
 generalize spot (clearN (ol B.names)) (ol A.names) = m at *
 obtain ⟨a, ha⟩ : ∃ a, (ol A.names)[m]? = some a := ⟨_, List.getElem?_eq_getElem hml⟩
 have hst := hno ha
 have hex : ∃ b ∈ ol B.names, (!(a.name == b.name)) = false := by
  unfold clearN at hst
  rw [List.all_eq_false] at hst
  obtain ⟨b, hb, h⟩ := hst
  exact ⟨b, hb, by cases hc : a.name == b.name with
   | true => rfl
   | false => rw [hc] at h; exact absurd rfl h⟩
 have hql := spot_lt (p := fun b : SymV => !(a.name == b.name)) hex
 have hyes2 : ∀ {j : Nat} {b : SymV}, j < spot (fun b : SymV => !(a.name == b.name)) (ol B.names) → (ol B.names)[j]? = some b → (a.name == b.name) = false := fun {j} {b} h1 h2 => by
  have := spot_yes (fun b : SymV => !(a.name == b.name)) h1 h2
  cases hc : a.name == b.name with
  | false => rfl
  | true => simp only [hc] at this; cases this
 have hno2 : ∀ {b : SymV}, (ol B.names)[spot (fun b : SymV => !(a.name == b.name)) (ol B.names)]? = some b → (a.name == b.name) = true := fun {b} h => by
  have := spot_no (fun b : SymV => !(a.name == b.name)) h
  cases hc : a.name == b.name with
  | true => rfl
  | false => simp only [hc] at this; cases this
 generalize spot (fun b : SymV => !(a.name == b.name)) (ol B.names) = q at *
 obtain ⟨b, hb⟩ : ∃ b, (ol B.names)[q]? = some b := ⟨_, List.getElem?_eq_getElem hql⟩
 have hab := hno2 hb
 rw [runFn_eq Try.func15 (by rfl)]
 simp [Try.f15, hckA, hckB]
 rw [loop_go (fun k => { env := envOf 201 [(2, .box (fileC A)), (3, .box (fileC B)), (4, .box [.nilsl, .nilsl]), (6, .int .i64 k), (7, dAt (ol B.parts).length k), (8, .undef), (9, .undef), (10, .undef), (11, .undef), (12, .undef), (13, .undef), (14, .undef)], defs := [], par := .none, S := S }) (ol A.parts).length (by omega)]
 rotate_left
 ·simp [fileC, dAt]
 ·intro k hk
  obtain ⟨c, hc⟩ : ∃ c, (ol A.parts)[k]? = some c := ⟨_, List.getElem?_eq_getElem (by omega)⟩
  have hkl : k < (ol A.parts).length := by omega
  have g7 : IntKind.i64.wrap ((k : Int) + 1) = (k : Int) + 1 := wrap_succ hkl (by omega)
  have hix := index_sv (own := false) (g := partRow) (k := .i64) Try.underlying22 tycells45 hc
  simp [fileC, hkl, dAt]
  rw [loop_go (fun j => { env := envOf 201 [(2, .box (fileC A)), (3, .box (fileC B)), (4, .box [.nilsl, .nilsl]), (6, .int .i64 k), (7, .int .i64 j), (8, .undef), (9, .undef), (10, .undef), (11, .undef), (12, .undef), (13, .undef), (14, .undef)], defs := [], par := .none, S := S }) (ol B.parts).length (by omega)]
  ·simp [fileC, g7]
  ·simp [fileC]
  ·intro j hj
   obtain ⟨e, he⟩ : ∃ e, (ol B.parts)[j]? = some e := ⟨_, List.getElem?_eq_getElem hj⟩
   have hiy := index_sv (own := false) (g := partRow) (k := .i64) Try.underlying22 tycells45 he
   have g8 : IntKind.i64.wrap ((j : Int) + 1) = (j : Int) + 1 := wrap_succ hj (by omega)
   have hno' : ov c e = false := clear_no (hnoP c (List.mem_of_getElem? hc)) he
   rw [← ovE] at hno'
   simp [fileC, hj]
   rw [evDraw_go]
   ·by_cases d1 : c.at' < IntKind.i64.wrap (e.at' + (ol e.bytes).length)
    ·have d2 : ¬ e.at' < IntKind.i64.wrap (c.at' + (ol c.bytes).length) := by simpa [d1] using hno'
     simp [hix, hiy, partRow, cend, hsk, d1, d2, g8]
    ·simp [hix, hiy, partRow, cend, hsk, d1, g8]
   ·kernel_rfl
 generalize hdp : dAt (ol B.parts).length (ol A.parts).length = dp
 simp [fileC]
 rw [loop_go (fun k => { env := envOf 201 [(2, .box (fileC A)), (3, .box (fileC B)), (4, .box [.nilsl, .nilsl]), (6, .int .i64 (ol A.parts).length), (7, dp), (8, .int .i64 k), (9, dAt (ol B.names).length k), (10, .undef), (11, .undef), (12, .undef), (13, .undef), (14, .undef)], defs := [], par := .none, S := S }) m (by omega)]
 ·have hix := index_sv (own := false) (g := symRow) (k := .i64) Try.underlying23 tycells64 ha
  generalize dAt (ol B.names).length m = dm
  simp [fileC, hml]
  rw [loop_go (fun j => { env := envOf 201 [(2, .box (fileC A)), (3, .box (fileC B)), (4, .box [.nilsl, .nilsl]), (6, .int .i64 (ol A.parts).length), (7, dp), (8, .int .i64 m), (9, .int .i64 j), (10, .undef), (11, .undef), (12, .undef), (13, .undef), (14, .undef)], defs := [], par := .none, S := S }) q (by omega)]
  ·have hiy := index_sv (own := false) (g := symRow) (k := .i64) Try.underlying23 tycells64 hb
   simp [fileC, hql]
   rw [evDraw_go]
   ·simp [hix, hiy, hab, build25, writeCells, takeCells_eq]
   ·kernel_rfl
  ·simp [fileC]
  ·intro j hj
   have hjl : j < (ol B.names).length := by omega
   obtain ⟨e, he⟩ : ∃ e, (ol B.names)[j]? = some e := ⟨_, List.getElem?_eq_getElem hjl⟩
   have hiy := index_sv (own := false) (g := symRow) (k := .i64) Try.underlying23 tycells64 he
   have g8 : IntKind.i64.wrap ((j : Int) + 1) = (j : Int) + 1 := wrap_succ hjl (by omega)
   have hno' : (a.name == e.name) = false := hyes2 hj he
   simp [fileC, hjl]
   rw [evDraw_go]
   ·simp [hix, hiy, hno', g8]
   ·kernel_rfl
 ·simp [fileC, dAt]
 ·intro k hk
  obtain ⟨c, hc⟩ : ∃ c, (ol A.names)[k]? = some c := ⟨_, List.getElem?_eq_getElem (by omega)⟩
  have hkl : k < (ol A.names).length := by omega
  have g7 : IntKind.i64.wrap ((k : Int) + 1) = (k : Int) + 1 := wrap_succ hkl (by omega)
  have hix := index_sv (own := false) (g := symRow) (k := .i64) Try.underlying23 tycells64 hc
  simp [fileC, hkl, dAt]
  rw [loop_go (fun j => { env := envOf 201 [(2, .box (fileC A)), (3, .box (fileC B)), (4, .box [.nilsl, .nilsl]), (6, .int .i64 (ol A.parts).length), (7, dp), (8, .int .i64 k), (9, .int .i64 j), (10, .undef), (11, .undef), (12, .undef), (13, .undef), (14, .undef)], defs := [], par := .none, S := S }) (ol B.names).length (by omega)]
  ·simp [fileC, g7]
  ·simp [fileC]
  ·intro j hj
   obtain ⟨e, he⟩ : ∃ e, (ol B.names)[j]? = some e := ⟨_, List.getElem?_eq_getElem hj⟩
   have hiy := index_sv (own := false) (g := symRow) (k := .i64) Try.underlying23 tycells64 he
   have g8 : IntKind.i64.wrap ((j : Int) + 1) = (j : Int) + 1 := wrap_succ hj (by omega)
   have hno' : (c.name == e.name) = false := clear_noN (hyes hk hc) he
   simp [fileC, hj]
   rw [evDraw_go]
   ·simp [hix, hiy, hno', g8]
   ·kernel_rfl
end Go.Ab.Seat
namespace Go.Ab.Seat
open Go.Proofs Srt
set_option maxRecDepth 100000
set_option maxHeartbeats 8000000
variable {H : Handler} {N : Nat} {S : Sto}
section
variable {X : Type}
def putFrom (q : X → X → Bool) (ys xs : List X) : List X := xs.foldl (fun ys x => putIn (fun y => q y x) ys x) ys
theorem putFrom_snoc (q : X → X → Bool) (ys xs : List X) (x : X) : putFrom q ys (xs ++ [x]) = putIn (fun y => q y x) (putFrom q ys xs) x := by simp [putFrom]
theorem putFrom_len (q : X → X → Bool) (ys xs : List X) : (putFrom q ys xs).length = ys.length + xs.length := foldl_putIn_len q xs ys
def oAt (q : X → X → Bool) (o : Option (List X)) (xs : List X) : Nat → Option (List X)
 | 0 => o
 | k + 1 => some (putFrom q (ol o) (xs.take (k + 1)))
theorem ol_oAt (q : X → X → Bool) (o : Option (List X)) (xs : List X) (k : Nat) : ol (oAt q o xs k) = putFrom q (ol o) (xs.take k) := by
 cases k with
 | zero => simp [oAt, putFrom]
 | succ k => rfl
def fAt : Nat → Bool
 | 0 => false
 | _ + 1 => true
def wasFrom (q : X → X → Bool) (ys xs : List X) : Nat → AV
 | 0 => .undef
 | k + 1 => match xs[k]? with
  | some x => .int .i64 (spot (fun y => q y x) (putFrom q ys (xs.take k)))
  | none => .undef
theorem ol_take (o : Option (List X)) (k : Nat) : ol (o.map (List.take k)) = (ol o).take k := by cases o <;> simp [ol]
theorem ol_drop (o : Option (List X)) (k : Nat) : ol (o.map (List.drop k)) = (ol o).drop k := by cases o <;> simp [ol]
end
def beforeP (y x : PartV) : Bool := decide (y.at' < x.at')
def joinF (A B : FileV) : FileV := ⟨oAt beforeP A.parts (ol B.parts) (ol B.parts).length, oAt before A.names (ol B.names) (ol B.names).length⟩
theorem build25p (p : Option (List PartV)) (s : Option (List SymV)) : buildA Try.prog 25 [(0, sv false 2 partRow p), (1, sv false 2 symRow s)] = some (.agg [sv false 2 partRow p, sv false 2 symRow s]) := by cases p <;> cases s <;> kernel_rfl
theorem partTo (o : Option (List PartV)) (k : Nat) (hk : k ≤ (ol o).length) : sliceA Try.prog 22 (sv false 2 partRow o) none (some (.int .i64 k)) none = some (sv false 2 partRow (o.map (List.take k))) := by
 cases o with
 | none =>
  have : k = 0 := by simpa [ol] using hk
  subst this
  exact (by kernel_rfl : sliceA Try.prog 22 .nilsl none (some (.int .i64 0)) none = some .nilsl)
 | some ys =>
  have := slice_hi (P := Try.prog) (own := false) (es := 2) (rows := ys.map partRow) (k := k) (kk := .i64) Try.underlying22 tycells45 (by simpa [ol] using hk)
  rw [sv_some, this, ← List.map_take]; rfl
theorem partFrom (o : Option (List PartV)) (k : Nat) (hk : k ≤ (ol o).length) : sliceA Try.prog 22 (sv false 2 partRow o) (some (.int .i64 k)) none none = some (sv false 2 partRow (o.map (List.drop k))) := by
 cases o with
 | none =>
  have : k = 0 := by simpa [ol] using hk
  subst this
  exact (by kernel_rfl : sliceA Try.prog 22 .nilsl (some (.int .i64 0)) none none = some .nilsl)
 | some ys =>
  have := slice_lo (P := Try.prog) (own := false) (es := 2) (rows := ys.map partRow) (k := k) (kk := .i64) Try.underlying22 tycells45 (by simpa [ol] using hk)
  rw [sv_some, this, ← List.map_drop]; rfl
theorem app_svP {st : St} {own : Bool} {o : Option (List PartV)} {xs : List PartV} (h : xs.length + (ol o).length < 2 ^ 30) : appendS Try.prog 1 22 22 (.sl true 2 (xs.map partRow)) (sv own 2 partRow o) st = some (.val (.sl true 2 ((xs ++ ol o).map partRow)) st) := by
 rw [List.map_append]
 exact app_own Try.underlying22 Try.underlying22 (by simp) tyzero45 rfl tycells45 rfl (by cases o <;> simp [rowsIn, rowsOf, sv, ol]) (not_big45 _ (by simpa using h))
theorem app_p1 {st : St} {own : Bool} {xs : List PartV} {x : PartV} (h : xs.length < 2 ^ 29) : appendS Try.prog 1 22 22 (.sl true 2 (xs.map partRow)) (.sl own 2 [partRow x]) st = some (.val (.sl true 2 ((xs ++ [x]).map partRow)) st) :=
 app_svP (o := some [x]) (by simp [ol]; omega)
theorem symTo2 (o : Option (List SymV)) (k : Nat) (hk : k ≤ (ol o).length) : sliceA Try.prog 23 (sv false 2 symRow o) none (some (.int .i64 k)) none = some (sv false 2 symRow (o.map (List.take k))) := by
 cases o with
 | none =>
  have : k = 0 := by simpa [ol] using hk
  subst this
  exact (by kernel_rfl : sliceA Try.prog 23 .nilsl none (some (.int .i64 0)) none = some .nilsl)
 | some ys =>
  have := slice_hi (P := Try.prog) (own := false) (es := 2) (rows := ys.map symRow) (k := k) (kk := .i64) Try.underlying23 tycells64 (by simpa [ol] using hk)
  rw [sv_some, this, ← List.map_take]; rfl
theorem symFrom2 (o : Option (List SymV)) (k : Nat) (hk : k ≤ (ol o).length) : sliceA Try.prog 23 (sv false 2 symRow o) (some (.int .i64 k)) none none = some (sv false 2 symRow (o.map (List.drop k))) := by
 cases o with
 | none =>
  have : k = 0 := by simpa [ol] using hk
  subst this
  exact (by kernel_rfl : sliceA Try.prog 23 .nilsl (some (.int .i64 0)) none none = some .nilsl)
 | some ys =>
  have := slice_lo (P := Try.prog) (own := false) (es := 2) (rows := ys.map symRow) (k := k) (kk := .i64) Try.underlying23 tycells64 (by simpa [ol] using hk)
  rw [sv_some, this, ← List.map_drop]; rfl
theorem app_svS {st : St} {own : Bool} {o : Option (List SymV)} {xs : List SymV} (h : xs.length + (ol o).length < 2 ^ 30) : appendS Try.prog 1 23 23 (.sl true 2 (xs.map symRow)) (sv own 2 symRow o) st = some (.val (.sl true 2 ((xs ++ ol o).map symRow)) st) := by
 rw [List.map_append]
 exact app_own Try.underlying23 Try.underlying23 (by simp) tyzero64 rfl tycells64 rfl (by cases o <;> simp [rowsIn, rowsOf, sv, ol]) (not_big64 _ (by simpa using h))
theorem app_s1 {st : St} {own : Bool} {xs : List SymV} {x : SymV} (h : xs.length < 2 ^ 29) : appendS Try.prog 1 23 23 (.sl true 2 (xs.map symRow)) (.sl own 2 [symRow x]) st = some (.val (.sl true 2 ((xs ++ [x]).map symRow)) st) :=
 app_svS (o := some [x]) (by simp [ol]; omega)
theorem joinOk {n : Nat} (A B : FileV) (hA : (ol A.parts).length ≤ 80) (hB : (ol B.parts).length ≤ 80) (hNA : (ol A.names).length ≤ 80) (hNB : (ol B.names).length ≤ 80) (hN : 200 < N) (hok : rightOk A = true) (hokB : rightOk B = true) (hs1 : Small A 6500) (hs2 : Small B 6500) (hn : 6600 < n) (hk0 : SOK S)
  (hnoP : ∀ a ∈ ol A.parts, clearP (ol B.parts) a = true) (hnoN : ∀ a ∈ ol A.names, clearN (ol B.names) a = true) :
  runFn Try.prog (handler Try.prog ppol n) N ppol 15 .none [.agg (fileC A), .agg (fileC B)] S = some (.ret (if rightOk (joinF A B) then .tup [.agg (fileC (joinF A B)), .int .i64 0] else errF), .none, S) := by
 have hckA := refCheck_callN (N := n) (S := S) A hs1 hn
 have hckB := refCheck_callN (N := n) (S := S) B hs2 hn
 unfold chk at hckA hckB
 rw [hok] at hckA
 rw [hokB] at hckB
 have cend := cend_of (S := S) (n := n) (by omega)
 have hsk := fun x => sK_self (α := AExit × St) hk0 x
 have hck := refCheck_callN (N := n) (S := S) (joinF A B) ⟨by simp only [joinF, ol_oAt, putFrom_len, List.length_take]; omega, by simp only [joinF, ol_oAt, putFrom_len, List.length_take]; omega, by omega⟩ hn
 unfold chk at hck
 rw [runFn_eq Try.func15 (by rfl)]
 simp [Try.f15, hckA, hckB]
 rw [loop_go (fun k => { env := envOf 201 [(2, .box (fileC A)), (3, .box (fileC B)), (4, .box [.nilsl, .nilsl]), (6, .int .i64 k), (7, dAt (ol B.parts).length k), (8, .undef), (9, .undef), (10, .undef), (11, .undef), (12, .undef), (13, .undef), (14, .undef)], defs := [], par := .none, S := S }) (ol A.parts).length (by omega)]
 rotate_left
 ·simp [fileC, dAt]
 ·intro k hk
  obtain ⟨c, hc⟩ : ∃ c, (ol A.parts)[k]? = some c := ⟨_, List.getElem?_eq_getElem (by omega)⟩
  have hkl : k < (ol A.parts).length := by omega
  have g7 : IntKind.i64.wrap ((k : Int) + 1) = (k : Int) + 1 := wrap_succ hkl (by omega)
  have hix := index_sv (own := false) (g := partRow) (k := .i64) Try.underlying22 tycells45 hc
  simp [fileC, hkl, dAt]
  rw [loop_go (fun j => { env := envOf 201 [(2, .box (fileC A)), (3, .box (fileC B)), (4, .box [.nilsl, .nilsl]), (6, .int .i64 k), (7, .int .i64 j), (8, .undef), (9, .undef), (10, .undef), (11, .undef), (12, .undef), (13, .undef), (14, .undef)], defs := [], par := .none, S := S }) (ol B.parts).length (by omega)]
  ·simp [fileC, g7]
  ·simp [fileC]
  ·intro j hj
   obtain ⟨e, he⟩ : ∃ e, (ol B.parts)[j]? = some e := ⟨_, List.getElem?_eq_getElem hj⟩
   have hiy := index_sv (own := false) (g := partRow) (k := .i64) Try.underlying22 tycells45 he
   have g8 : IntKind.i64.wrap ((j : Int) + 1) = (j : Int) + 1 := wrap_succ hj (by omega)
   have hno' : ov c e = false := clear_no (hnoP c (List.mem_of_getElem? hc)) he
   rw [← ovE] at hno'
   simp [fileC, hj]
   rw [evDraw_go]
   ·by_cases d1 : c.at' < IntKind.i64.wrap (e.at' + (ol e.bytes).length)
    ·have d2 : ¬ e.at' < IntKind.i64.wrap (c.at' + (ol c.bytes).length) := by simpa [d1] using hno'
     simp [hix, hiy, partRow, cend, hsk, d1, d2, g8]
    ·simp [hix, hiy, partRow, cend, hsk, d1, g8]
   ·kernel_rfl
 generalize hdp : dAt (ol B.parts).length (ol A.parts).length = dp
 simp [fileC]
 rw [loop_go (fun k => { env := envOf 201 [(2, .box (fileC A)), (3, .box (fileC B)), (4, .box [.nilsl, .nilsl]), (6, .int .i64 (ol A.parts).length), (7, dp), (8, .int .i64 k), (9, dAt (ol B.names).length k), (10, .undef), (11, .undef), (12, .undef), (13, .undef), (14, .undef)], defs := [], par := .none, S := S }) (ol A.names).length (by omega)]
 rotate_left
 ·simp [fileC, dAt]
 ·intro k hk
  obtain ⟨c, hc⟩ : ∃ c, (ol A.names)[k]? = some c := ⟨_, List.getElem?_eq_getElem (by omega)⟩
  have hkl : k < (ol A.names).length := by omega
  have g7 : IntKind.i64.wrap ((k : Int) + 1) = (k : Int) + 1 := wrap_succ hkl (by omega)
  have hix := index_sv (own := false) (g := symRow) (k := .i64) Try.underlying23 tycells64 hc
  simp [fileC, hkl, dAt]
  rw [loop_go (fun j => { env := envOf 201 [(2, .box (fileC A)), (3, .box (fileC B)), (4, .box [.nilsl, .nilsl]), (6, .int .i64 (ol A.parts).length), (7, dp), (8, .int .i64 k), (9, .int .i64 j), (10, .undef), (11, .undef), (12, .undef), (13, .undef), (14, .undef)], defs := [], par := .none, S := S }) (ol B.names).length (by omega)]
  ·simp [fileC, g7]
  ·simp [fileC]
  ·intro j hj
   obtain ⟨e, he⟩ : ∃ e, (ol B.names)[j]? = some e := ⟨_, List.getElem?_eq_getElem hj⟩
   have hiy := index_sv (own := false) (g := symRow) (k := .i64) Try.underlying23 tycells64 he
   have g8 : IntKind.i64.wrap ((j : Int) + 1) = (j : Int) + 1 := wrap_succ hj (by omega)
   have hno' : (c.name == e.name) = false := clear_noN (hnoN c (List.mem_of_getElem? hc)) he
   simp [fileC, hj]
   rw [evDraw_go]
   ·simp [hix, hiy, hno', g8]
   ·kernel_rfl
 generalize hdn : dAt (ol B.names).length (ol A.names).length = dn
 simp [fileC, build25p, writeCells]
 rw [loop_go (fun k => { env := envOf 201 [(2, .box (fileC A)), (3, .box (fileC B)), (4, .box [.nilsl, .nilsl]), (6, .int .i64 (ol A.parts).length), (7, dp), (8, .int .i64 (ol A.names).length), (9, dn), (10, .box [sv (fAt k) 2 partRow (oAt beforeP A.parts (ol B.parts) k), sv false 2 symRow A.names]), (11, .int .i64 k), (12, wasFrom beforeP (ol A.parts) (ol B.parts) k), (13, .undef), (14, .undef)], defs := [], par := .none, S := S }) (ol B.parts).length (by omega)]
 rotate_left
 ·simp [fileC, fAt, oAt, wasFrom]
 ·intro k hk
  obtain ⟨x, hx⟩ : ∃ x, (ol B.parts)[k]? = some x := ⟨_, List.getElem?_eq_getElem hk⟩
  obtain ⟨o, ho⟩ : ∃ o, oAt beforeP A.parts (ol B.parts) k = o := ⟨_, rfl⟩
  have hoo : ol o = putFrom beforeP (ol A.parts) ((ol B.parts).take k) := by rw [← ho, ol_oAt]
  have hlen : (ol o).length ≤ 160 := by rw [hoo, putFrom_len, List.length_take]; omega
  have hnext : oAt beforeP A.parts (ol B.parts) (k + 1) = some (putIn (fun y => beforeP y x) (ol o) x) := by
   show some (putFrom beforeP (ol A.parts) ((ol B.parts).take (k + 1))) = _
   rw [take_snoc hx, putFrom_snoc, hoo]
  have hwas : wasFrom beforeP (ol A.parts) (ol B.parts) (k + 1) = .int .i64 (spot (fun y => beforeP y x) (ol o)) := by simp [wasFrom, hx, hoo]
  have hyes : ∀ {j : Nat} {y : PartV}, j < spot (fun y => beforeP y x) (ol o) → (ol o)[j]? = some y → y.at' < x.at' := fun h1 h2 => of_decide_eq_true (spot_yes (fun y => beforeP y x) h1 h2)
  have hno : ∀ {y : PartV}, (ol o)[spot (fun y => beforeP y x) (ol o)]? = some y → ¬ y.at' < x.at' := fun h => of_decide_eq_false (spot_no (fun y => beforeP y x) h)
  have hle := spot_le (fun y => beforeP y x) (ol o)
  rw [ho, hwas, hnext, show fAt (k + 1) = true from rfl, sv_some]
  generalize wasFrom beforeP (ol A.parts) (ol B.parts) k = w0
  generalize fAt k = fl
  unfold putIn
  generalize spot (fun y => beforeP y x) (ol o) = m at *
  have g7 : IntKind.i64.wrap ((k : Int) + 1) = (k : Int) + 1 := wrap_succ hk (by omega)
  have hix := index_sv (own := false) (g := partRow) (k := .i64) Try.underlying22 tycells45 hx
  have e1 := partTo o m hle
  have e2 := partFrom o m hle
  have a1 := fun st own => app_svP (st := st) (own := own) (xs := []) (o := o.map (List.take m)) (by rw [ol_take]; simp; omega)
  have a2 := fun st own => app_p1 (st := st) (own := own) (xs := (ol o).take m) (x := x) (by simp; omega)
  have a3 := fun st own => app_svP (st := st) (own := own) (xs := (ol o).take m ++ [x]) (o := o.map (List.drop m)) (by rw [ol_drop]; simp; omega)
  rw [ol_drop, show (ol o).take m ++ [x] ++ (ol o).drop m = (ol o).take m ++ x :: (ol o).drop m by simp] at a3
  rw [ol_take] at a1
  simp only [List.map_nil, List.nil_append] at a1
  simp [fileC, hk]
  rw [loop_go (fun j => { env := envOf 201 [(2, .box (fileC A)), (3, .box (fileC B)), (4, .box [.nilsl, .nilsl]), (6, .int .i64 (ol A.parts).length), (7, dp), (8, .int .i64 (ol A.names).length), (9, dn), (10, .box [sv fl 2 partRow o, sv false 2 symRow A.names]), (11, .int .i64 k), (12, .int .i64 j), (13, .undef), (14, .undef)], defs := [], par := .none, S := S }) m (by omega)]
  ·by_cases hml : m < (ol o).length
   ·obtain ⟨y, hy⟩ : ∃ y, (ol o)[m]? = some y := ⟨_, List.getElem?_eq_getElem hml⟩
    have hiy := index_sv (own := false) (g := partRow) (o := o) (k := .i64) Try.underlying22 tycells45 hy
    simp [fileC]
    rw [evDraw_go]
    ·simp [hml, hix, hiy, hno hy]
     rw [evDraw_go]
     ·simp [hix, buildSliceA, fillRows, e1, e2, a1, a2, a3, writeCells, g7, -List.map_append, -List.map_take, -List.map_drop]
      simp
     ·kernel_rfl
    ·kernel_rfl
   ·simp [fileC]
    rw [evDraw_go]
    ·simp [hml]
     rw [evDraw_go]
     ·simp [hix, buildSliceA, fillRows, e1, e2, a1, a2, a3, writeCells, g7, -List.map_append, -List.map_take, -List.map_drop]
      simp
     ·kernel_rfl
    ·kernel_rfl
  ·simp [fileC]
  ·intro j hj
   have hjl : j < (ol o).length := by omega
   obtain ⟨y, hy⟩ : ∃ y, (ol o)[j]? = some y := ⟨_, List.getElem?_eq_getElem hjl⟩
   have hiy := index_sv (own := false) (g := partRow) (o := o) (k := .i64) Try.underlying22 tycells45 hy
   have g8 : IntKind.i64.wrap ((j : Int) + 1) = (j : Int) + 1 := wrap_succ hjl (by omega)
   simp [fileC]
   rw [evDraw_go]
   ·simp [hjl, hix, hiy, hyes hj hy, g8]
   ·kernel_rfl
 obtain ⟨PV, hPV⟩ : ∃ PV, sv (fAt (ol B.parts).length) 2 partRow (oAt beforeP A.parts (ol B.parts) (ol B.parts).length) = PV := ⟨_, rfl⟩
 have hP0 : PV.strip0 = sv false 2 partRow (oAt beforeP A.parts (ol B.parts) (ol B.parts).length) := by rw [← hPV]; simp
 rw [hPV]
 generalize wasFrom beforeP (ol A.parts) (ol B.parts) (ol B.parts).length = w1
 simp [fileC]
 rw [loop_go (fun k => { env := envOf 201 [(2, .box (fileC A)), (3, .box (fileC B)), (4, .box [.nilsl, .nilsl]), (6, .int .i64 (ol A.parts).length), (7, dp), (8, .int .i64 (ol A.names).length), (9, dn), (10, .box [PV, sv (fAt k) 2 symRow (oAt before A.names (ol B.names) k)]), (11, .int .i64 (ol B.parts).length), (12, w1), (13, .int .i64 k), (14, wasFrom before (ol A.names) (ol B.names) k)], defs := [], par := .none, S := S }) (ol B.names).length (by omega)]
 rotate_left
 ·simp [fileC, fAt, oAt, wasFrom]
 ·intro k hk
  obtain ⟨x, hx⟩ : ∃ x, (ol B.names)[k]? = some x := ⟨_, List.getElem?_eq_getElem hk⟩
  obtain ⟨o, ho⟩ : ∃ o, oAt before A.names (ol B.names) k = o := ⟨_, rfl⟩
  have hoo : ol o = putFrom before (ol A.names) ((ol B.names).take k) := by rw [← ho, ol_oAt]
  have hlen : (ol o).length ≤ 160 := by rw [hoo, putFrom_len, List.length_take]; omega
  have hnext : oAt before A.names (ol B.names) (k + 1) = some (putIn (fun y => before y x) (ol o) x) := by
   show some (putFrom before (ol A.names) ((ol B.names).take (k + 1))) = _
   rw [take_snoc hx, putFrom_snoc, hoo]
  have hwas : wasFrom before (ol A.names) (ol B.names) (k + 1) = .int .i64 (spot (fun y => before y x) (ol o)) := by simp [wasFrom, hx, hoo]
  have hyes : ∀ {j : Nat} {y : SymV}, j < spot (fun y => before y x) (ol o) → (ol o)[j]? = some y → Op.bytesLess y.name x.name = true := fun h1 h2 => spot_yes (fun y => before y x) h1 h2
  have hno : ∀ {y : SymV}, (ol o)[spot (fun y => before y x) (ol o)]? = some y → Op.bytesLess y.name x.name = false := fun h => spot_no (fun y => before y x) h
  have hle := spot_le (fun y => before y x) (ol o)
  rw [ho, hwas, hnext, show fAt (k + 1) = true from rfl, sv_some]
  generalize wasFrom before (ol A.names) (ol B.names) k = w0
  generalize fAt k = fl
  unfold putIn
  generalize spot (fun y => before y x) (ol o) = m at *
  have g7 : IntKind.i64.wrap ((k : Int) + 1) = (k : Int) + 1 := wrap_succ hk (by omega)
  have hix := index_sv (own := false) (g := symRow) (k := .i64) Try.underlying23 tycells64 hx
  have e1 := symTo2 o m hle
  have e2 := symFrom2 o m hle
  have a1 := fun st own => app_svS (st := st) (own := own) (xs := []) (o := o.map (List.take m)) (by rw [ol_take]; simp; omega)
  have a2 := fun st own => app_s1 (st := st) (own := own) (xs := (ol o).take m) (x := x) (by simp; omega)
  have a3 := fun st own => app_svS (st := st) (own := own) (xs := (ol o).take m ++ [x]) (o := o.map (List.drop m)) (by rw [ol_drop]; simp; omega)
  rw [ol_drop, show (ol o).take m ++ [x] ++ (ol o).drop m = (ol o).take m ++ x :: (ol o).drop m by simp] at a3
  rw [ol_take] at a1
  simp only [List.map_nil, List.nil_append] at a1
  simp [fileC, hk]
  rw [loop_go (fun j => { env := envOf 201 [(2, .box (fileC A)), (3, .box (fileC B)), (4, .box [.nilsl, .nilsl]), (6, .int .i64 (ol A.parts).length), (7, dp), (8, .int .i64 (ol A.names).length), (9, dn), (10, .box [PV, sv fl 2 symRow o]), (11, .int .i64 (ol B.parts).length), (12, w1), (13, .int .i64 k), (14, .int .i64 j)], defs := [], par := .none, S := S }) m (by omega)]
  ·by_cases hml : m < (ol o).length
   ·obtain ⟨y, hy⟩ : ∃ y, (ol o)[m]? = some y := ⟨_, List.getElem?_eq_getElem hml⟩
    have hiy := index_sv (own := false) (g := symRow) (o := o) (k := .i64) Try.underlying23 tycells64 hy
    simp [fileC]
    rw [evDraw_go]
    ·simp [hml, hix, hiy, hno hy]
     rw [evDraw_go]
     ·simp [hix, buildSliceA, fillRows, e1, e2, a1, a2, a3, writeCells, g7, -List.map_append, -List.map_take, -List.map_drop]
      simp
     ·kernel_rfl
    ·kernel_rfl
   ·simp [fileC]
    rw [evDraw_go]
    ·simp [hml]
     rw [evDraw_go]
     ·simp [hix, buildSliceA, fillRows, e1, e2, a1, a2, a3, writeCells, g7, -List.map_append, -List.map_take, -List.map_drop]
      simp
     ·kernel_rfl
    ·kernel_rfl
  ·simp [fileC]
  ·intro j hj
   have hjl : j < (ol o).length := by omega
   obtain ⟨y, hy⟩ : ∃ y, (ol o)[j]? = some y := ⟨_, List.getElem?_eq_getElem hjl⟩
   have hiy := index_sv (own := false) (g := symRow) (o := o) (k := .i64) Try.underlying23 tycells64 hy
   have g8 : IntKind.i64.wrap ((j : Int) + 1) = (j : Int) + 1 := wrap_succ hjl (by omega)
   simp [fileC]
   rw [evDraw_go]
   ·simp [hjl, hix, hiy, hyes hj hy, g8]
   ·kernel_rfl
 generalize wasFrom before (ol A.names) (ol B.names) (ol B.names).length = w2
 cases hok2 : rightOk (joinF A B) <;> rw [hok2] at hck <;> simp only [joinF, fileC] at hck ⊢ <;> simp [fileC, hP0, hck, build25, writeCells, takeCells_eq, errF]
end Go.Ab.Seat
namespace Go.Ab.Seat
open Go.Proofs Srt
set_option maxRecDepth 100000
section
variable {X : Type}
theorem putFrom_perm (q : X → X → Bool) (ys xs : List X) : (putFrom q ys xs).Perm (ys ++ xs) := foldl_perm q xs ys
theorem putFrom_sorted {lt : X → X → Prop} (w : WO lt) {q : X → X → Bool} (hq : ∀ y x, q y x = true ↔ lt y x) : ∀ (xs ys : List X), (ys.Pairwise fun a b => ¬ lt b a) → (putFrom q ys xs).Pairwise fun a b => ¬ lt b a := by
 intro xs
 induction xs with
 | nil => intro ys h; exact h
 | cons x xs ih => intro ys h; exact ih _ (putIn_sorted w (fun y => hq y x) h)
end
theorem parts_strict {l : List PartV} (h0 : ∀ p ∈ l, Part0 p) (h : l.Pairwise fun p q => endN p ≤ atN q) : l.Pairwise fun p q => p.at' < q.at' := by
 rw [List.pairwise_iff_getElem] at h ⊢
 intro i j hi hj hij
 have h1 := h i j hi hj hij
 have p0 := h0 _ (List.getElem_mem hi)
 have q0 := h0 _ (List.getElem_mem hj)
 have := p0.lt
 rw [p0.1, q0.1]
 omega
theorem pstrict_inj : ∀ {l : List PartV}, (l.Pairwise fun a b => a.at' < b.at') → ∀ a ∈ l, ∀ b ∈ l, a.at' = b.at' → a = b
 | [], _, a, ha, _, _, _ => by cases ha
 | c :: l, h, a, ha, b, hb, e => by
  rw [List.pairwise_cons] at h
  rcases List.mem_cons.1 ha with ha' | ha' <;> rcases List.mem_cons.1 hb with hb' | hb'
  ·rw [ha', hb']
  ·have := h.1 b hb'
   rw [← ha'] at this; omega
  ·have := h.1 a ha'
   rw [← hb'] at this; omega
  ·exact pstrict_inj h.2 a ha' b hb' e
theorem strict_weak {l : List PartV} (h : l.Pairwise fun p q => p.at' < q.at') : l.Pairwise fun p q => ¬ q.at' < p.at' := h.imp fun h => by omega
theorem join_parts {A B C : List PartV} (hA : pBad 0 A = false) (hB : pBad 0 B = false) (hp : C.Perm (A ++ B)) (hs : C.Pairwise fun x y => ¬ y.at' < x.at') (h : adjOk C = true) : C = putFrom beforeP A B := by
 have c0 : ∀ p ∈ C, Part0 p := fun p h => by
  rcases List.mem_append.1 (hp.mem_iff.1 h) with h | h
  ·exact valid_each hA p h
  ·exact valid_each hB p h
 have hC := parts_strict c0 (adj_pair c0 h)
 have hA' := strict_weak (parts_strict (valid_each hA) (valid_pair hA))
 have hz := putFrom_sorted (q := beforeP) liesWO (fun y x => by unfold beforeP; exact decide_eq_true_iff) B A hA'
 have p : C.Perm (putFrom beforeP A B) := hp.trans (putFrom_perm beforeP A B).symm
 exact List.Perm.eq_of_pairwise (le := fun a b : PartV => ¬ b.at' < a.at') (fun a b ha hb h1 h2 => pstrict_inj hC a (by first | exact ha | exact p.mem_iff.2 ha) b (by first | exact hb | exact p.mem_iff.2 hb) (by omega)) hs hz p
def difAt (l : List SymV) (i : Nat) : Bool := match l[i]? with
 | some q => decide (i = 0) || (match l[i - 1]? with | some p => !(p.name == q.name) | none => true)
 | none => true
def difOk (l : List SymV) : Bool := (List.range l.length).all (difAt l)
theorem dif_all {l : List SymV} (h : ∀ j, j < l.length → difAt l j = true) : difOk l = true := by
 unfold difOk; rw [List.all_eq_true]; intro j hj; exact h j (List.mem_range.1 hj)
theorem dif_step {l : List SymV} (h : difOk l = true) {k : Nat} {p q : SymV} (hp : l[k]? = some p) (hq : l[k + 1]? = some q) : p.name ≠ q.name := by
 unfold difOk at h
 rw [List.all_eq_true] at h
 have := h (k + 1) (List.mem_range.2 (List.getElem?_eq_some_iff.1 hq).1)
 unfold difAt at this
 rw [hq] at this
 simp only [Nat.add_sub_cancel, hp, Bool.or_eq_true, decide_eq_true_eq, Bool.not_eq_true', beq_eq_false_iff_ne, ne_eq] at this
 rcases this with h | h
 ·omega
 ·exact h
theorem dif_strict {l : List SymV} (hs : l.Pairwise fun x y => ¬ bl y.name x.name) (h : difOk l = true) : l.Pairwise fun p q => bl p.name q.name := by
 have step : ∀ k p q, l[k]? = some p → l[k + 1]? = some q → bl p.name q.name := fun k p q hp hq => by
  have h1 := dif_step h hp hq
  have h2 := (List.pairwise_iff_getElem.1 hs) k (k + 1) (List.getElem?_eq_some_iff.1 hp).1 (List.getElem?_eq_some_iff.1 hq).1 (by omega)
  rw [(List.getElem?_eq_some_iff.1 hp).2, (List.getElem?_eq_some_iff.1 hq).2] at h2
  rcases bl_tri p.name q.name with h3 | h3 | h3
  ·exact h3
  ·exact absurd h3 h1
  ·exact absurd h3 h2
 have far : ∀ d k p q, l[k]? = some p → l[k + d + 1]? = some q → bl p.name q.name := by
  intro d
  induction d with
  | zero => intro k p q hp hq; exact step k p q hp hq
  | succ d ih =>
   intro k p q hp hq
   obtain ⟨c, hc⟩ : ∃ c, l[k + d + 1]? = some c := ⟨_, List.getElem?_eq_getElem (by have := (List.getElem?_eq_some_iff.1 hq).1; omega)⟩
   exact bl_tr _ _ _ (ih k p c hp hc) (step (k + d + 1) c q hc (by rw [← hq]; congr 1))
 rw [List.pairwise_iff_getElem]
 intro i j hi hj hij
 exact far (j - i - 1) i _ _ (List.getElem?_eq_getElem hi) (by rw [show i + (j - i - 1) + 1 = j by omega]; exact List.getElem?_eq_getElem hj)
theorem bl_ne {a b : List UInt8} (h : bl a b) : a ≠ b := by
 rintro rfl
 unfold bl at h; rw [bl_irr] at h; cases h
theorem bl_not {a b : List UInt8} (h : bl a b) : ¬ bl b a := fun h2 => bl_ne (bl_tr _ _ _ h h2) rfl
theorem join_dif {A B C : List SymV} (hA : namesOk A = true) (hB : namesOk B = true) (hp : C.Perm (A ++ B)) (hs : C.Pairwise fun x y => ¬ bl y.name x.name) :
  difOk C = true ↔ ∀ a ∈ A, ∀ b ∈ B, (a.name == b.name) = false := by
 have sym : ∀ {x y : SymV}, x.name ≠ y.name → y.name ≠ x.name := fun h => h.symm
 constructor
 ·intro h a ha b hb
  have h1 : C.Pairwise fun x y => x.name ≠ y.name := (dif_strict hs h).imp fun h => bl_ne h
  have h2 : (A ++ B).Pairwise fun x y => x.name ≠ y.name := (hp.pairwise_iff (fun {x y} h => sym h)).1 h1
  exact beq_eq_false_iff_ne.2 ((List.pairwise_append.1 h2).2.2 a ha b hb)
 ·intro h
  have h2 : (A ++ B).Pairwise fun x y => x.name ≠ y.name := by
   rw [List.pairwise_append]
   exact ⟨(names_strict hA).imp fun h => bl_ne h, (names_strict hB).imp fun h => bl_ne h, fun a ha b hb => beq_eq_false_iff_ne.1 (h a ha b hb)⟩
  have h1 : C.Pairwise fun x y => x.name ≠ y.name := (hp.pairwise_iff (fun {x y} h => sym h)).2 h2
  refine dif_all fun j hj => ?_
  unfold difAt
  rw [List.getElem?_eq_getElem hj]
  by_cases hz : j = 0
  ·simp [hz]
  ·have hj1 : j - 1 < C.length := by omega
   have := (List.pairwise_iff_getElem.1 h1) (j - 1) j hj1 hj (by omega)
   simp only [List.getElem?_eq_getElem hj1, hz, decide_false, Bool.false_or, Bool.not_eq_true', beq_eq_false_iff_ne, ne_eq]
   exact this
theorem join_names {A B C : List SymV} (hA : namesOk A = true) (hp : C.Perm (A ++ B)) (hs : C.Pairwise fun x y => ¬ bl y.name x.name) (h : difOk C = true) : C = putFrom before A B := by
 have hC := dif_strict hs h
 have hA' : A.Pairwise fun a b => ¬ bl b.name a.name := (names_strict hA).imp fun h => bl_not h
 have hz := putFrom_sorted (q := before) namesWO (fun _ _ => Iff.rfl) B A hA'
 have p : C.Perm (putFrom before A B) := hp.trans (putFrom_perm before A B).symm
 exact (same_order p.symm hz hs hC).symm
theorem flat_put {l : List PartV} (h : pBad 0 l = false) : ∀ (k : Nat) (p : PartV), l[k]? = some p → ∀ m, k < m → endN p ≤ (flatB (l.take m)).length ∧ ((flatB (l.take m)).drop (atN p)).take (plen p) = ol p.bytes := by
 intro k p hp m
 induction m with
 | zero => intro h; omega
 | succ m ih =>
  intro hm
  by_cases hml : m < l.length
  ·obtain ⟨q, hq⟩ : ∃ q, l[m]? = some q := ⟨_, List.getElem?_eq_getElem hml⟩
   have hqo := pBad_at (x := 0) h hq
   have hl := flatB_len h m
   have hge := hqo.ge
   rw [take_snoc hq, flatB_snoc]
   by_cases hkm : k = m
   ·subst hkm
    rw [hp] at hq
    cases hq
    unfold flatStep
    have e1 : (flatB (l.take k) ++ List.replicate (atN p - (flatB (l.take k)).length) 0).length = atN p := by
     simp only [List.length_append, List.length_replicate]; omega
    rw [← List.append_assoc]
    constructor
    ·rw [List.length_append, e1]; unfold endN plen; omega
    ·rw [List.drop_append_of_le_length (by omega), List.drop_eq_nil_of_le (by omega), List.nil_append]
     unfold plen; exact List.take_length
   ·obtain ⟨i1, i2⟩ := ih (by omega)
    unfold flatStep
    constructor
    ·rw [List.length_append]; omega
    ·have hd : atN p ≤ (flatB (l.take m)).length := by unfold endN at i1; omega
     rw [List.drop_append_of_le_length hd, List.take_append_of_le_length (by rw [List.length_drop]; unfold endN at i1; omega)]
     exact i2
  ·have : k < m := by have := (List.getElem?_eq_some_iff.1 hp).1; omega
   have hi := ih this
   rw [List.take_of_length_le (by omega)] at hi ⊢
   exact hi
end Go.Ab.Seat
namespace Go.Ab.Seat
open Go.Proofs Srt
set_option maxRecDepth 100000
set_option maxHeartbeats 4000000
variable {H : Handler} {N : Nat} {S : Sto}
theorem opA_cap {P : Program} {pol : Pol} {f : FuncId} {pl : List Tmp} {d : Option Tmp} {a : Operand} {t ty : TypeId} {po : String} {af : Array Edge} {g : Option (Nat × Bool)} {st : St} :
  opA P pol f pl ⟨d, .call { callee := .builtin .cap, args := #[a], argTypes := #[t] }, ty, po, af, g⟩ st = oB (capA P t (opd st.env a)) fun v => some (.val v st) := by
 unfold opA
 simp only [isPure, if_true, pureA, consumed, stripAt, oB]
 cases capA P t (opd st.env a) <;> rfl
theorem sameR_repP (k : Nat) : sameR (List.replicate k [AV.int .i64 0, .nilsl]) (List.replicate k [AV.int .i64 0, .nilsl]) = true := by
 have : List.replicate k [AV.int .i64 0, .nilsl] = (List.replicate k (⟨0, none⟩ : PartV)).map partRow := by simp [partRow, sv_none]
 rw [this]; exact sameR_map goodPart _
theorem sameR_repS (k : Nat) : sameR (List.replicate k [AV.str [], .int .i64 0]) (List.replicate k [AV.str [], .int .i64 0]) = true := by
 have : List.replicate k [AV.str [], .int .i64 0] = (List.replicate k (⟨[], 0⟩ : SymV)).map symRow := by simp [symRow]
 rw [this]; exact sameR_map goodSym _
theorem heap_zerosP (env : List AV) (defs : List ADef) (par : AMode) (S : Sto) (k : Nat) (h0 : 0 < k) (hk : k < 2 ^ 20) : appendS Try.prog 2 22 3 .nilsl (.int .i64 k) { env := env, defs := defs, par := par, S := S } =
  some (.val (.rsl S.next 2 0 k) { env := env, defs := defs, par := par, S := S.new (.arr 2 (List.replicate k [AV.int .i64 0, .nilsl])) }) := by
 have hm : moreA Try.prog S 45 3 (.int .i64 k) = some (List.replicate k [AV.int .i64 0, .nilsl]) := by
  unfold moreA
  simp only [Try.underlying3, tyzero45]
  rw [if_pos (by refine ⟨by omega, by omega, by rw [tycells45]; rfl, ?_⟩; rw [tybytes45]; omega)]
  simp [AV.cells]
 obtain ⟨j, rfl⟩ : ∃ j, k = j + 1 := ⟨k - 1, by omega⟩
 have hb : ¬ bigA Try.prog 45 (List.replicate (j + 1) [AV.int .i64 0, .nilsl]).length := not_big45 _ (by simp; omega)
 unfold appendS
 simp only [Try.underlying22, tyzero45]
 rw [if_pos (by rw [tycells45]; rfl)]
 simp only [if_neg (show ¬ (2 = 0) by decide), hm, if_true]
 rw [List.replicate_succ] at hb ⊢
 simp only [appHeap]
 rw [if_neg hb, tycells45]
 simp
theorem heap_inP {env : List AV} {defs : List ADef} {par : AMode} {S : Sto} {id u : Nat} {rows : List (List AV)} {own : Bool} {o : Option (List PartV)} (hg : S.get id = some (.arr 2 rows)) (hu : u + (ol o).length ≤ rows.length) (hl : rows.length < 2 ^ 20) :
  appendS Try.prog 2 22 22 (.rsl id 2 0 u) (sv own 2 partRow o) { env := env, defs := defs, par := par, S := S } =
  some (.val (.rsl id 2 0 (u + (ol o).length)) { env := env, defs := defs, par := par, S := S.put id (.arr 2 (rows.take u ++ (ol o).map partRow ++ rows.drop (u + (ol o).length))) }) := by
 have hm : moreA Try.prog S 45 22 (sv own 2 partRow o) = some ((ol o).map partRow) := by
  rw [more_slice Try.underlying22 (by simp), tycells45]
  cases o <;> simp [rowsIn, rowsOf, sv, ol]
 have hb : ¬ bigA Try.prog 45 (u + ((ol o).map partRow).length) := not_big45 _ (by simp; omega)
 unfold appendS
 simp only [Try.underlying22, tyzero45]
 rw [if_pos (by rw [tycells45]; rfl)]
 simp only [if_neg (show ¬ (2 = 0) by decide), hm, if_true]
 cases hx : ol o with
 | nil => simp [appHeap, put_self hg]
 | cons x xs =>
  rw [hx] at hu hb
  simp only [List.length_cons] at hu
  simp only [List.map_cons, appHeap, hg, tycells45]
  rw [if_neg (by simp only [ne_eq, not_true_eq_false, false_or]; simpa using hb)]
  rw [if_pos (by simp; omega)]
  simp
theorem growP_call {n : Nat} (k : Nat) (hk : k < 2 ^ 20) : (handler Try.prog ppol (n + 1)).call (.func 70) [.nilsl, .int .i64 k] S = some (if k = 0 then (.ret .nilsl, S) else (.ret (.rsl S.next 2 0 0), S.new (.arr 2 (List.replicate k [AV.int .i64 0, .nilsl])))) := by
 rw [call_func (by rfl), runFn_eq Try.func70 (by rfl)]
 have w : IntKind.i64.wrap (k : Int) = k := Go.IntWalk.i64_in _ (by omega)
 have w0 : IntKind.i64.wrap 0 = 0 := Go.IntWalk.i64_in _ (by omega)
 by_cases h : k = 0
 ·subst h
  simp [Try.f70, opA_cap, capA, lenA, w0]
 ·have h0 : 0 < k := by omega
  have hs : sliceA Try.prog 22 .nilsl none (some (.int .i64 0)) none = some .nilsl := by kernel_rfl
  have hs2 : sliceA Try.prog 22 (.rsl S.next 2 0 k) none (some (.int .i64 0)) none = some (.rsl S.next 2 0 0) := by simp [sliceA, boundA, Try.underlying22, tycells45]
  have ha := fun env defs par => heap_zerosP env defs par S k h0 hk
  have hn0 : ¬ (k : Int) < 0 := by omega
  simp [Try.f70, opA_cap, capA, lenA, w, w0, hn0, h0, h, hs, hs2, ha]
theorem concP_call {n : Nat} (own : Bool) (a b : Option (List PartV)) (hl : (ol a).length + (ol b).length < 2 ^ 19) (hn : 10 < n) :
  ∃ S', (handler Try.prog ppol (n + 1)).call (.func 44) [.sl own 1 [[sv false 2 partRow a], [sv false 2 partRow b]]] S = some (.ret (sv false 2 partRow (optL (ol a ++ ol b))), S') ∧ Grew [] S S' := by
 obtain ⟨m, rfl⟩ : ∃ m, n = m + 3 := ⟨n - 3, by omega⟩
 have hgr := growP_call (S := S) (n := m + 2) ((ol a).length + (ol b).length) (by omega)
 have w1 : IntKind.i64.wrap ((ol a).length : Int) = ((ol a).length : Int) := Go.IntWalk.i64_in _ (by omega)
 have w2 : IntKind.i64.wrap (((ol a).length : Int) + ((ol b).length : Int)) = (((ol a).length + (ol b).length : Nat) : Int) := by rw [← Int.natCast_add]; exact Go.IntWalk.i64_in _ (by omega)
 have w3 : IntKind.i64.wrap 1 = 1 := Go.IntWalk.i64_in _ (by omega)
 have w4 : IntKind.i64.wrap (1 + 1) = 2 := Go.IntWalk.i64_in _ (by omega)
 have w5 : IntKind.i64.wrap 2 = 2 := Go.IntWalk.i64_in _ (by omega)
 have w00 : IntKind.i64.wrap 0 = 0 := Go.IntWalk.i64_in _ (by omega)
 have p1 : ¬ (((ol a).length : Int)) < 0 := by omega
 have p2 : ¬ ((((ol a).length + (ol b).length : Nat) : Int)) < 0 := by omega
 have i0 : ∀ x y : AV, indexAddrA Try.prog 105 (.sl false 1 [[x], [y]]) (.int .i64 0) = some (.fptr [x]) := fun x y => by kernel_rfl
 have i1 : ∀ x y : AV, indexAddrA Try.prog 105 (.sl false 1 [[x], [y]]) (.int .i64 1) = some (.fptr [y]) := fun x y => by kernel_rfl
 rw [call_func (by rfl), runFn_eq Try.func44 (by rfl)]
 generalize hL : (ol a).length + (ol b).length = L at *
 by_cases hz : L = 0
 ·have ha : ol a = [] := List.length_eq_zero_iff.1 (by omega)
  have hb : ol b = [] := List.length_eq_zero_iff.1 (by omega)
  subst hz
  refine ⟨S, ?_, Grew.refl _ _⟩
  have e : ∀ (st : St) (own : Bool) (o : Option (List PartV)), ol o = [] → appendS Try.prog 2 22 22 .nilsl (sv own 2 partRow o) st = some (.val .nilsl st) := fun st own o h => by
   have hm : moreA Try.prog st.S 45 22 (sv own 2 partRow o) = some [] := by
    rw [more_slice Try.underlying22 (by simp), tycells45]
    cases o with
    | none => simp [rowsIn, rowsOf, sv]
    | some xs => simp only [ol, Option.getD_some] at h; subst h; simp [rowsIn, rowsOf, sv]
   unfold appendS
   simp only [Try.underlying22, tyzero45]
   rw [if_pos (by rw [tycells45]; rfl)]
   simp only [if_neg (show ¬ (2 = 0) by decide), hm, if_true, appHeap]
  have e1 := fun st own => e st own a ha
  have e2 := fun st own => e st own b hb
  rw [if_pos rfl, show ((0 : Nat) : Int) = 0 from rfl] at hgr
  simp only [ha, hb, List.length_nil] at w1 w2 p1 p2
  simp [Try.f44, lenA]
  rw [loop_step]
  simp [i0, ha, w1, w3, w00]
  rw [loop_step]
  simp [i1, hb, w1, w2, w4, w5, w00]
  rw [loop_step]
  simp [hgr, lenA]
  rw [loop_step]
  simp [i0, e1, w3]
  rw [loop_step]
  simp [i1, e2, w4, w5]
  rw [loop_step]
  simp [ha, hb, optL, sv_none]
 ·rw [if_neg hz] at hgr
  obtain ⟨id, hid⟩ : ∃ id, S.next = id := ⟨_, rfl⟩
  rw [hid] at hgr
  obtain ⟨S1, hS1⟩ : ∃ S1, S.new (.arr 2 (List.replicate L [AV.int .i64 0, .nilsl])) = S1 := ⟨_, rfl⟩
  have g1 : S1.get id = some (.arr 2 (List.replicate L [AV.int .i64 0, .nilsl])) := by rw [← hS1, ← hid]; exact get_new_self _ _
  obtain ⟨R1, hR1⟩ : ∃ R1, (List.replicate L [AV.int .i64 0, .nilsl]).take 0 ++ (ol a).map partRow ++ (List.replicate L [AV.int .i64 0, .nilsl]).drop (0 + (ol a).length) = R1 := ⟨_, rfl⟩
  have lR1 : R1.length = L := by rw [← hR1]; simp; omega
  obtain ⟨S2, hS2⟩ : ∃ S2, S1.put id (.arr 2 R1) = S2 := ⟨_, rfl⟩
  have g2 : S2.get id = some (.arr 2 R1) := by rw [← hS2]; exact get_put_self g1
  obtain ⟨R2, hR2⟩ : ∃ R2, R1.take (ol a).length ++ (ol b).map partRow ++ R1.drop ((ol a).length + (ol b).length) = R2 := ⟨_, rfl⟩
  have eR2 : R2 = (ol a ++ ol b).map partRow := by
   rw [← hR2, List.drop_eq_nil_of_le (by omega), List.append_nil, ← hR1]
   simp only [List.take_zero, List.nil_append, List.map_append]
   rw [List.take_append_of_le_length (by simp), List.take_of_length_le (by simp)]
  obtain ⟨S3, hS3⟩ : ∃ S3, S2.put id (.arr 2 R2) = S3 := ⟨_, rfl⟩
  have g3 : S3.get id = some (.arr 2 R2) := by rw [← hS3]; exact get_put_self g2
  have e1 := fun env defs par own => heap_inP (env := env) (defs := defs) (par := par) (S := S1) (id := id) (u := 0) (own := own) (o := a) g1 (by simp; omega) (by simp; omega)
  have e2 := fun env defs par own => heap_inP (env := env) (defs := defs) (par := par) (S := S2) (id := id) (u := (ol a).length) (own := own) (o := b) g2 (by omega) (by omega)
  rw [hR1, hS2] at e1
  rw [hR2, hS3, hL] at e2
  simp only [Nat.zero_add] at e1
  rw [hS1] at hgr
  have hfz : frzA true S3 (.rsl id 2 0 L) = (.sl false 2 R2, S3.drop id) := by
   have := frzA_arr g3
   rwa [show R2.length = L by rw [eR2]; simp; omega] at this
  have hopt : optL (ol a ++ ol b) = some (ol a ++ ol b) := by
   unfold optL
   rw [if_neg]
   intro hh
   rw [List.isEmpty_iff] at hh
   have := congrArg List.length hh
   rw [List.length_append, List.length_nil] at this
   omega
  refine ⟨S3.drop id, ?_, ?_⟩
  ·rw [hopt, sv_some, ← eR2]
   simp [Try.f44, lenA]
   rw [loop_step]
   simp [i0, w1, w3, p1]
   rw [loop_step]
   simp [i1, w2, w4, w5, p2]
   rw [loop_step]
   simp [hgr, lenA]
   rw [loop_step]
   simp [i0, e1, w3]
   rw [loop_step]
   simp [i1, e2, w4, w5]
   rw [loop_step]
   simp [hfz]
  ·have x1 : Grew [] S S1 := by rw [← hS1]; exact Grew.new _ _ _ (by rw [good_arr]; simp [sameR_repP])
   have gr : ∀ xs : List PartV, sameR (xs.map partRow) (xs.map partRow) = true := fun xs => sameR_map goodPart xs
   have y1 : sameR R1 R1 = true := by
    rw [← hR1, show (List.replicate L [AV.int .i64 0, .nilsl]).take 0 ++ (ol a).map partRow ++ (List.replicate L [AV.int .i64 0, .nilsl]).drop (0 + (ol a).length) = (ol a ++ List.replicate (L - (ol a).length) (⟨0, none⟩ : PartV)).map partRow by simp [partRow, sv_none]]
    exact gr _
   have y2 : sameR R2 R2 = true := by rw [eR2]; exact gr _
   have x2 : Grew [id] S1 S3 := by
    rw [← hS3, ← hS2]
    exact (Grew.put _ _ (.inl (by simp)) (by rw [good_arr]; exact y1)).trans (Grew.put _ _ (.inl (by simp)) (by rw [good_arr]; exact y2))
   exact (x1.behind x2 (by simp; omega)).behind (Grew.drop (x := [id]) _ (.inl (by simp))) (by simp; omega)
theorem heap_zerosS (env : List AV) (defs : List ADef) (par : AMode) (S : Sto) (k : Nat) (h0 : 0 < k) (hk : k < 2 ^ 20) : appendS Try.prog 2 23 3 .nilsl (.int .i64 k) { env := env, defs := defs, par := par, S := S } =
  some (.val (.rsl S.next 2 0 k) { env := env, defs := defs, par := par, S := S.new (.arr 2 (List.replicate k [AV.str [], .int .i64 0])) }) := by
 have hm : moreA Try.prog S 64 3 (.int .i64 k) = some (List.replicate k [AV.str [], .int .i64 0]) := by
  unfold moreA
  simp only [Try.underlying3, tyzero64]
  rw [if_pos (by refine ⟨by omega, by omega, by rw [tycells64]; rfl, ?_⟩; rw [tybytes64]; omega)]
  simp [AV.cells]
 obtain ⟨j, rfl⟩ : ∃ j, k = j + 1 := ⟨k - 1, by omega⟩
 have hb : ¬ bigA Try.prog 64 (List.replicate (j + 1) [AV.str [], .int .i64 0]).length := not_big64 _ (by simp; omega)
 unfold appendS
 simp only [Try.underlying23, tyzero64]
 rw [if_pos (by rw [tycells64]; rfl)]
 simp only [if_neg (show ¬ (2 = 0) by decide), hm, if_true]
 rw [List.replicate_succ] at hb ⊢
 simp only [appHeap]
 rw [if_neg hb, tycells64]
 simp
theorem heap_inS {env : List AV} {defs : List ADef} {par : AMode} {S : Sto} {id u : Nat} {rows : List (List AV)} {own : Bool} {o : Option (List SymV)} (hg : S.get id = some (.arr 2 rows)) (hu : u + (ol o).length ≤ rows.length) (hl : rows.length < 2 ^ 20) :
  appendS Try.prog 2 23 23 (.rsl id 2 0 u) (sv own 2 symRow o) { env := env, defs := defs, par := par, S := S } =
  some (.val (.rsl id 2 0 (u + (ol o).length)) { env := env, defs := defs, par := par, S := S.put id (.arr 2 (rows.take u ++ (ol o).map symRow ++ rows.drop (u + (ol o).length))) }) := by
 have hm : moreA Try.prog S 64 23 (sv own 2 symRow o) = some ((ol o).map symRow) := by
  rw [more_slice Try.underlying23 (by simp), tycells64]
  cases o <;> simp [rowsIn, rowsOf, sv, ol]
 have hb : ¬ bigA Try.prog 64 (u + ((ol o).map symRow).length) := not_big64 _ (by simp; omega)
 unfold appendS
 simp only [Try.underlying23, tyzero64]
 rw [if_pos (by rw [tycells64]; rfl)]
 simp only [if_neg (show ¬ (2 = 0) by decide), hm, if_true]
 cases hx : ol o with
 | nil => simp [appHeap, put_self hg]
 | cons x xs =>
  rw [hx] at hu hb
  simp only [List.length_cons] at hu
  simp only [List.map_cons, appHeap, hg, tycells64]
  rw [if_neg (by simp only [ne_eq, not_true_eq_false, false_or]; simpa using hb)]
  rw [if_pos (by simp; omega)]
  simp
theorem growS_call {n : Nat} (k : Nat) (hk : k < 2 ^ 20) : (handler Try.prog ppol (n + 1)).call (.func 74) [.nilsl, .int .i64 k] S = some (if k = 0 then (.ret .nilsl, S) else (.ret (.rsl S.next 2 0 0), S.new (.arr 2 (List.replicate k [AV.str [], .int .i64 0])))) := by
 rw [call_func (by rfl), runFn_eq Try.func74 (by rfl)]
 have w : IntKind.i64.wrap (k : Int) = k := Go.IntWalk.i64_in _ (by omega)
 have w0 : IntKind.i64.wrap 0 = 0 := Go.IntWalk.i64_in _ (by omega)
 by_cases h : k = 0
 ·subst h
  simp [Try.f74, opA_cap, capA, lenA, w0]
 ·have h0 : 0 < k := by omega
  have hs : sliceA Try.prog 23 .nilsl none (some (.int .i64 0)) none = some .nilsl := by kernel_rfl
  have hs2 : sliceA Try.prog 23 (.rsl S.next 2 0 k) none (some (.int .i64 0)) none = some (.rsl S.next 2 0 0) := by simp [sliceA, boundA, Try.underlying23, tycells64]
  have ha := fun env defs par => heap_zerosS env defs par S k h0 hk
  have hn0 : ¬ (k : Int) < 0 := by omega
  simp [Try.f74, opA_cap, capA, lenA, w, w0, hn0, h0, h, hs, hs2, ha]
theorem concS_call {n : Nat} (own : Bool) (a b : Option (List SymV)) (hl : (ol a).length + (ol b).length < 2 ^ 19) (hn : 10 < n) :
  ∃ S', (handler Try.prog ppol (n + 1)).call (.func 47) [.sl own 1 [[sv false 2 symRow a], [sv false 2 symRow b]]] S = some (.ret (sv false 2 symRow (optL (ol a ++ ol b))), S') ∧ Grew [] S S' := by
 obtain ⟨m, rfl⟩ : ∃ m, n = m + 3 := ⟨n - 3, by omega⟩
 have hgr := growS_call (S := S) (n := m + 2) ((ol a).length + (ol b).length) (by omega)
 have w1 : IntKind.i64.wrap ((ol a).length : Int) = ((ol a).length : Int) := Go.IntWalk.i64_in _ (by omega)
 have w2 : IntKind.i64.wrap (((ol a).length : Int) + ((ol b).length : Int)) = (((ol a).length + (ol b).length : Nat) : Int) := by rw [← Int.natCast_add]; exact Go.IntWalk.i64_in _ (by omega)
 have w3 : IntKind.i64.wrap 1 = 1 := Go.IntWalk.i64_in _ (by omega)
 have w4 : IntKind.i64.wrap (1 + 1) = 2 := Go.IntWalk.i64_in _ (by omega)
 have w5 : IntKind.i64.wrap 2 = 2 := Go.IntWalk.i64_in _ (by omega)
 have w00 : IntKind.i64.wrap 0 = 0 := Go.IntWalk.i64_in _ (by omega)
 have p1 : ¬ (((ol a).length : Int)) < 0 := by omega
 have p2 : ¬ ((((ol a).length + (ol b).length : Nat) : Int)) < 0 := by omega
 have i0 : ∀ x y : AV, indexAddrA Try.prog 112 (.sl false 1 [[x], [y]]) (.int .i64 0) = some (.fptr [x]) := fun x y => by kernel_rfl
 have i1 : ∀ x y : AV, indexAddrA Try.prog 112 (.sl false 1 [[x], [y]]) (.int .i64 1) = some (.fptr [y]) := fun x y => by kernel_rfl
 rw [call_func (by rfl), runFn_eq Try.func47 (by rfl)]
 generalize hL : (ol a).length + (ol b).length = L at *
 by_cases hz : L = 0
 ·have ha : ol a = [] := List.length_eq_zero_iff.1 (by omega)
  have hb : ol b = [] := List.length_eq_zero_iff.1 (by omega)
  subst hz
  refine ⟨S, ?_, Grew.refl _ _⟩
  have e : ∀ (st : St) (own : Bool) (o : Option (List SymV)), ol o = [] → appendS Try.prog 2 23 23 .nilsl (sv own 2 symRow o) st = some (.val .nilsl st) := fun st own o h => by
   have hm : moreA Try.prog st.S 64 23 (sv own 2 symRow o) = some [] := by
    rw [more_slice Try.underlying23 (by simp), tycells64]
    cases o with
    | none => simp [rowsIn, rowsOf, sv]
    | some xs => simp only [ol, Option.getD_some] at h; subst h; simp [rowsIn, rowsOf, sv]
   unfold appendS
   simp only [Try.underlying23, tyzero64]
   rw [if_pos (by rw [tycells64]; rfl)]
   simp only [if_neg (show ¬ (2 = 0) by decide), hm, if_true, appHeap]
  have e1 := fun st own => e st own a ha
  have e2 := fun st own => e st own b hb
  rw [if_pos rfl, show ((0 : Nat) : Int) = 0 from rfl] at hgr
  simp only [ha, hb, List.length_nil] at w1 w2 p1 p2
  simp [Try.f47, lenA]
  rw [loop_step]
  simp [i0, ha, w1, w3, w00]
  rw [loop_step]
  simp [i1, hb, w1, w2, w4, w5, w00]
  rw [loop_step]
  simp [hgr, lenA]
  rw [loop_step]
  simp [i0, e1, w3]
  rw [loop_step]
  simp [i1, e2, w4, w5]
  rw [loop_step]
  simp [ha, hb, optL, sv_none]
 ·rw [if_neg hz] at hgr
  obtain ⟨id, hid⟩ : ∃ id, S.next = id := ⟨_, rfl⟩
  rw [hid] at hgr
  obtain ⟨S1, hS1⟩ : ∃ S1, S.new (.arr 2 (List.replicate L [AV.str [], .int .i64 0])) = S1 := ⟨_, rfl⟩
  have g1 : S1.get id = some (.arr 2 (List.replicate L [AV.str [], .int .i64 0])) := by rw [← hS1, ← hid]; exact get_new_self _ _
  obtain ⟨R1, hR1⟩ : ∃ R1, (List.replicate L [AV.str [], .int .i64 0]).take 0 ++ (ol a).map symRow ++ (List.replicate L [AV.str [], .int .i64 0]).drop (0 + (ol a).length) = R1 := ⟨_, rfl⟩
  have lR1 : R1.length = L := by rw [← hR1]; simp; omega
  obtain ⟨S2, hS2⟩ : ∃ S2, S1.put id (.arr 2 R1) = S2 := ⟨_, rfl⟩
  have g2 : S2.get id = some (.arr 2 R1) := by rw [← hS2]; exact get_put_self g1
  obtain ⟨R2, hR2⟩ : ∃ R2, R1.take (ol a).length ++ (ol b).map symRow ++ R1.drop ((ol a).length + (ol b).length) = R2 := ⟨_, rfl⟩
  have eR2 : R2 = (ol a ++ ol b).map symRow := by
   rw [← hR2, List.drop_eq_nil_of_le (by omega), List.append_nil, ← hR1]
   simp only [List.take_zero, List.nil_append, List.map_append]
   rw [List.take_append_of_le_length (by simp), List.take_of_length_le (by simp)]
  obtain ⟨S3, hS3⟩ : ∃ S3, S2.put id (.arr 2 R2) = S3 := ⟨_, rfl⟩
  have g3 : S3.get id = some (.arr 2 R2) := by rw [← hS3]; exact get_put_self g2
  have e1 := fun env defs par own => heap_inS (env := env) (defs := defs) (par := par) (S := S1) (id := id) (u := 0) (own := own) (o := a) g1 (by simp; omega) (by simp; omega)
  have e2 := fun env defs par own => heap_inS (env := env) (defs := defs) (par := par) (S := S2) (id := id) (u := (ol a).length) (own := own) (o := b) g2 (by omega) (by omega)
  rw [hR1, hS2] at e1
  rw [hR2, hS3, hL] at e2
  simp only [Nat.zero_add] at e1
  rw [hS1] at hgr
  have hfz : frzA true S3 (.rsl id 2 0 L) = (.sl false 2 R2, S3.drop id) := by
   have := frzA_arr g3
   rwa [show R2.length = L by rw [eR2]; simp; omega] at this
  have hopt : optL (ol a ++ ol b) = some (ol a ++ ol b) := by
   unfold optL
   rw [if_neg]
   intro hh
   rw [List.isEmpty_iff] at hh
   have := congrArg List.length hh
   rw [List.length_append, List.length_nil] at this
   omega
  refine ⟨S3.drop id, ?_, ?_⟩
  ·rw [hopt, sv_some, ← eR2]
   simp [Try.f47, lenA]
   rw [loop_step]
   simp [i0, w1, w3, p1]
   rw [loop_step]
   simp [i1, w2, w4, w5, p2]
   rw [loop_step]
   simp [hgr, lenA]
   rw [loop_step]
   simp [i0, e1, w3]
   rw [loop_step]
   simp [i1, e2, w4, w5]
   rw [loop_step]
   simp [hfz]
  ·have x1 : Grew [] S S1 := by rw [← hS1]; exact Grew.new _ _ _ (by rw [good_arr]; simp [sameR_repS])
   have gr : ∀ xs : List SymV, sameR (xs.map symRow) (xs.map symRow) = true := fun xs => sameR_map goodSym xs
   have y1 : sameR R1 R1 = true := by
    rw [← hR1, show (List.replicate L [AV.str [], .int .i64 0]).take 0 ++ (ol a).map symRow ++ (List.replicate L [AV.str [], .int .i64 0]).drop (0 + (ol a).length) = (ol a ++ List.replicate (L - (ol a).length) (⟨[], 0⟩ : SymV)).map symRow by simp [symRow]]
    exact gr _
   have y2 : sameR R2 R2 = true := by rw [eR2]; exact gr _
   have x2 : Grew [id] S1 S3 := by
    rw [← hS3, ← hS2]
    exact (Grew.put _ _ (.inl (by simp)) (by rw [good_arr]; exact y1)).trans (Grew.put _ _ (.inl (by simp)) (by rw [good_arr]; exact y2))
   exact (x1.behind x2 (by simp; omega)).behind (Grew.drop (x := [id]) _ (.inl (by simp))) (by simp; omega)
end Go.Ab.Seat
namespace Go.Ab
theorem getT_maskD {pol : Pol} {f : FuncId} {ops : Array Oper} {env : List AV} {t : Nat} (h1 : ops.toList.any (fun o => o.dst == some t) = false) (h2 : ops.toList.any (fun o => (consumed pol f o).contains t) = false) : getT (maskD pol f ops env) t = getT env t := by
 unfold maskD
 rw [← getT_eq, ← getT_eq]
 simp only [List.getD_eq_getElem?_getD, List.getElem?_mapIdx]
 cases env[t]? with
 | none => rfl
 | some v => simp only [Option.map_some, Option.getD_some, h1, h2, Bool.false_eq_true, if_false]
end Go.Ab
namespace Go.Ab.Seat
open Go.Proofs Srt
set_option maxRecDepth 100000
set_option maxHeartbeats 4000000
variable {H : Handler} {N : Nat} {S : Sto}
theorem clear42_call {n a : Nat} {cs : List AV} (hS : S.get a = some (.cells cs)) (hl : cs.length = 2) : (handler Try.prog ppol (n + 1)).call (.func 42) [.ptr a 0] S = some (.ret .undef, S.put a (.cells [.nilsl, .nilsl])) := by
 obtain ⟨x, y, rfl⟩ : ∃ x y, cs = [x, y] := by
  match cs, hl with
  | [x, y], _ => exact ⟨x, y, rfl⟩
 rw [call_func (by rfl), runFn_eq Try.func42 (by rfl)]
 simp [Try.f42, hS, build25, writeCells]
def errK (k : Int) : AV := .tup [.agg [.nilsl, .nilsl], .int .i64 k]
def pjoinV (A B : FileV) (C : List PartV) (D : List SymV) : AV :=
 if (rightOk A && rightOk B) = true then (if adjOk C = true then (if difOk D = true then (if rightOk ⟨optL C, optL D⟩ = true then .tup [.agg (fileC ⟨optL C, optL D⟩), .int .i64 0] else errK 310) else errK 281) else errK 311) else errK 310
theorem join_run {n : Nat} (A B : FileV) (h1 : Small A n) (h2 : Small B n) (hk : SOK S) (pa : (ol A.parts).length ≤ 80) (pb : (ol B.parts).length ≤ 80) (na : (ol A.names).length ≤ 80) (nb : (ol B.names).length ≤ 80) :
  ∃ C D S', runFn Try.prog (handler Try.prog ppol (n + 10)) (n + 10) ppol 14 .none [.agg (fileC A), .agg (fileC B)] S = some (.ret (pjoinV A B C D), .none, S') ∧ Grew [] S S' ∧
   Sorted (fun x y => liesC x y < 0) (ol A.parts ++ ol B.parts) C ∧ Sorted (fun x y => namesC x y < 0) (ol A.names ++ ol B.names) D := by
 have hbig := h1.big
 obtain ⟨a, ha⟩ : ∃ a, S.next = a := ⟨_, rfl⟩
 obtain ⟨S1, hS1⟩ : ∃ S1, (S.new (.cells [.nilsl, .nilsl])).new (.cells [.int .i64 0]) = S1 := ⟨_, rfl⟩
 have g01 : Grew [] S S1 := by rw [← hS1]; exact (Grew.new _ _ _ (by simp)).trans (Grew.new _ _ _ (by simp))
 have hn1 : S1.next = a + 2 := by rw [← hS1, ← ha]; rfl
 have ha1 : S1.get a = some (.cells [.nilsl, .nilsl]) := by rw [← hS1, ← ha]; simp
 have hb1 : S1.get (a + 1) = some (.cells [.int .i64 0]) := by rw [← hS1, ← ha]; simp
 obtain ⟨S2, c2, g12⟩ := right_call (n := n + 4) (S := S1) A (h1.up (by omega))
 have ha2 := (g12.get a (by omega) (by simp)).trans ha1
 have hb2 := (g12.get (a + 1) (by omega) (by simp)).trans hb1
 have hn2 := g12.next
 obtain ⟨S3, c3, g23⟩ := right_call (n := n + 4) (S := S2) B (h2.up (by omega))
 have ha3 := (g23.get a (by omega) (by simp)).trans ha2
 have hb3 := (g23.get (a + 1) (by omega) (by simp)).trans hb2
 have hn3 := g23.next
 have g03 := (g01.trans g12).trans g23
 have bad : ∀ (k : Int) (S' : Sto) (cs : List AV), S'.get a = some (.cells cs) → cs.length = 2 → S'.get (a + 1) = some (.cells [.int .i64 0]) →
   (handler Try.prog ppol (n + 10)).callD 30 [.ptr (a + 1) 0, .fn (.func 42) [] [.ptr a 0]] (.panicking [⟨.iface 29 (.int .i64 k), false⟩]) S' = some (.ret .undef, .panicking [⟨.iface 29 (.int .i64 k), true⟩], (S'.put a (.cells [.nilsl, .nilsl])).put (a + 1) (.cells [.int .i64 k])) ∧
   ((S'.put a (.cells [.nilsl, .nilsl])).put (a + 1) (.cells [.int .i64 k])).get a = some (.cells [.nilsl, .nilsl]) ∧ ((S'.put a (.cells [.nilsl, .nilsl])).put (a + 1) (.cells [.int .i64 k])).get (a + 1) = some (.cells [.int .i64 k]) ∧
   Grew [a, a + 1] S' ((S'.put a (.cells [.nilsl, .nilsl])).put (a + 1) (.cells [.int .i64 k])) := fun k S' cs h1 hl h2 => by
  have h2' : (S'.put a (.cells [.nilsl, .nilsl])).get (a + 1) = some (.cells [.int .i64 0]) := by rw [get_put_ne (by omega)]; exact h2
  refine ⟨caught_pan (n := n + 9) (S := S') 42 [.ptr a 0] k (clear42_call (n := n + 8) h1 hl) h2', ?_, get_put_self h2', ?_⟩
  ·rw [get_put_ne (by omega)]; exact get_put_self h1
  ·exact (Grew.put _ _ (.inl (by simp)) (by simp)).trans (Grew.put _ _ (.inl (by simp)) (by simp))
 -- what is put in order
 obtain ⟨S4, c44, g34⟩ := concP_call (S := S3) (n := n + 9) true A.parts B.parts (by omega) (by omega)
 obtain ⟨S5, C, c43, g45, hC⟩ := ordP_call (S := S4) (n := n + 10) lies_ok (optL (ol A.parts ++ ol B.parts)) (by rw [ol_optL]; simp; omega) (by rw [ol_optL]; simp; omega) (g34.sok (g03.sok hk))
 have hk4 := g34.sok (g03.sok hk)
 have hk5 := g45.sok hk4
 obtain ⟨S6, c47, g56⟩ := concS_call (S := S5) (n := n + 9) true A.names B.names (by omega) (by omega)
 have hk6 := g56.sok hk5
 obtain ⟨S7, D, c46, g67, hD⟩ := Sy.ordP_call (S := S6) (n := n + 10) names_ok (optL (ol A.names ++ ol B.names)) (by rw [ol_optL]; simp; omega) (by rw [ol_optL]; simp; omega) hk6
 rw [ol_optL] at hC hD
 refine ⟨C, D, ?_⟩
 rw [runFn_eq Try.func14 (by rfl)]
 unfold pjoinV errK
 obtain ⟨F, hF⟩ : ∃ F : FileV, (⟨optL C, optL D⟩ : FileV) = F := ⟨_, rfl⟩
 have hFc : fileC F = [sv false 2 partRow (optL C), sv false 2 symRow (optL D)] := by rw [← hF]; rfl
 have hFp : F.parts = optL C := by rw [← hF]
 have hFn : F.names = optL D := by rw [← hF]
 rw [hF]
 cases hokA : rightOk A <;> rw [hokA] at c2
 ·obtain ⟨b1, b2, b3, b4⟩ := bad 310 S2 _ ha2 rfl hb2
  refine ⟨_, ?_, (g01.trans g12).behind b4 (by simp; omega), hC, hD⟩
  simp [Try.f14, ha, hS1, c2, errPan, b1, b2, b3, takeCells_eq, isAggV, put_self b2, put_self b3]
 cases hokB : rightOk B <;> rw [hokB] at c3
 ·obtain ⟨b1, b2, b3, b4⟩ := bad 310 S3 _ ha3 rfl hb3
  refine ⟨_, ?_, g03.behind b4 (by simp; omega), hC, hD⟩
  simp [Try.f14, ha, hS1, c2, c3, errPan, b1, b2, b3, takeCells_eq, isAggV, put_self b2, put_self b3]
 have sk1 := fun x => sK_grew (α := AExit × St) (g03.sok hk) g34 x
 have sk2 := fun x => sK_grew (α := AExit × St) hk4 g45 x
 have sk3 := fun x => sK_grew (α := AExit × St) hk5 g56 x
 have sk4 := fun x => sK_grew (α := AExit × St) hk6 g67 x
 have g37 : Grew [] S3 S7 := ((g34.trans g45).trans g56).trans g67
 have ha7 := (g37.get a (by omega) (by simp)).trans ha3
 have hb7 := (g37.get (a + 1) (by omega) (by simp)).trans hb3
 obtain ⟨S8, hS8⟩ : ∃ S8, S7.put a (.cells [sv false 2 partRow (optL C), sv false 2 symRow (optL D)]) = S8 := ⟨_, rfl⟩
 have ha8 : S8.get a = some (.cells [sv false 2 partRow (optL C), sv false 2 symRow (optL D)]) := by rw [← hS8]; exact get_put_self ha7
 have hb8 : S8.get (a + 1) = some (.cells [.int .i64 0]) := by rw [← hS8, get_put_ne (by omega)]; exact hb7
 simp [Try.f14, ha, hS1, c2, c3]
 rw [evDraw_go]
 ·simp [buildSliceA, fillRows, c44, c43, c47, c46, sk1, sk2, sk3, sk4, build25p, ha7, hS8, writeCells]
  have hlenC : C.length ≤ 160 := by have := hC.perm.length_eq; simp at this; omega
  have hlenD : D.length ≤ 160 := by have := hD.perm.length_eq; simp at this; omega
  have g78 : Grew [a] S7 S8 := by rw [← hS8]; exact Grew.put _ _ (.inl (by simp)) (by rw [good_cells]; simp [same_sv false 2 goodPart, same_sv false 2 goodSym])
  have hk8 : SOK S8 := g78.sok (g37.sok (g03.sok hk))
  have g08 : Grew [] S S8 := (g03.trans g37).behind g78 (by simp; omega)
  have hsk8 := fun x => sK_self (α := AExit × St) hk8 x
  have cend := fun (x : Int) (o : Option (List UInt8)) (own : Bool) => end_call (n := n + 9) (S := S8) x o own
  have mt := must_call (n := n + 9) (S := S8) true 311
  have mf := must_call (n := n + 9) (S := S8) false 311
  by_cases hadj : adjOk C = true
  ·rw [loop_go (fun k => { env := envOf 76 [(4, .ptr a 0), (5, .ptr (a + 1) 0), (6, .int .i64 ((k : Int) + 1)), (7, .undef)], defs := [⟨.fn (.func 30) [], [.ptr (a + 1) 0, .fn (.func 42) [] [.ptr a 0]]⟩], par := .none, S := S8 }) (C.length - 1) (by omega)]
   ·have hex : ¬ (((C.length - 1 : Nat) : Int) + 1 < (C.length : Int)) := by omega
    generalize C.length - 1 = L1 at *
    simp [ha8, ol_optL, hex]
    have nt := must_call (n := n + 9) (S := S8) true 281
    have nf := must_call (n := n + 9) (S := S8) false 281
    by_cases hdif : difOk D = true
    ·rw [loop_go (fun k => { env := envOf 76 [(4, .ptr a 0), (5, .ptr (a + 1) 0), (6, .int .i64 ((L1 : Int) + 1)), (7, .int .i64 ((k : Int) + 1))], defs := [⟨.fn (.func 30) [], [.ptr (a + 1) 0, .fn (.func 42) [] [.ptr a 0]]⟩], par := .none, S := S8 }) (D.length - 1) (by omega)]
     ·have hex2 : ¬ (((D.length - 1 : Nat) : Int) + 1 < (D.length : Int)) := by omega
      generalize D.length - 1 = L2 at *
      obtain ⟨S9, c9, g89⟩ := right_call (n := n + 4) (S := S8) F ⟨by rw [hFp, ol_optL]; omega, by rw [hFn, ol_optL]; omega, by omega⟩
      have ha9 := (g89.get a (by rw [← hS8, next_put]; have := g37.next; omega) (by simp)).trans ha8
      have hb9 := (g89.get (a + 1) (by rw [← hS8, next_put]; have := g37.next; omega) (by simp)).trans hb8
      have hn8 : a + 2 ≤ S8.next := by rw [← hS8, next_put]; have := g37.next; omega
      have hn9 := g89.next
      cases hokF : rightOk F <;> rw [hokF] at c9
      ·rw [hFc] at c9
       obtain ⟨b1, b2, b3, b4⟩ := bad 310 S9 _ ha9 rfl hb9
       refine ⟨_, ?_, (g08.trans g89).behind b4 (by simp; omega), hC, hD⟩
       simp [ha8, ol_optL, hex2, hadj, hdif, c9, errPan, b1, b2, b3, takeCells_eq, isAggV, put_self b2, put_self b3]
      ·obtain ⟨hsz1, hsz2⟩ := rightOk_sizes hokF
       have hpb := rightOk_parts hokF
       obtain ⟨v, w, Sa, m, ca, g9a, hv, hw, hm, hvm⟩ := own_call2 (n := n + 7) (S := S9) F (g89.sok hk8) (by omega) (by omega) (by omega) (fun p hp => by have := pBad_each hpb p hp; omega)
       rw [hFc] at c9 ca ⊢
       rw [hFp] at hv
       rw [hFn] at hw
       obtain ⟨v1, v2, v3, v4, v5, v6, v7, v8⟩ := slv2 hv
       obtain ⟨w1, w2, w3, w4, w5, w6, w7, w8⟩ := slv2 hw
       have haa := (g9a.get a (by omega) (by simp)).trans ha9
       have hba := (g9a.get (a + 1) (by omega) (by simp)).trans hb9
       have hna := g9a.next
       obtain ⟨Sb, hSb⟩ : ∃ Sb, Sa.put a (.cells [v, w]) = Sb := ⟨_, rfl⟩
       have gab : Grew [a] Sa Sb := by rw [← hSb]; exact Grew.put _ _ (.inl (by simp)) (by rw [good_cells]; simp [sameL] at v7 w7 ⊢; exact ⟨v7, w7⟩)
       have hab : Sb.get a = some (.cells [v, w]) := by rw [← hSb]; exact get_put_self haa
       have hbb : Sb.get (a + 1) = some (.cells [.int .i64 0]) := by rw [← hSb, get_put_ne (by omega)]; exact hba
       have hvb : SlV Sb 2 partRow S9.next (optL C) v := hv.mono gab (fun x hx => by simp at hx; omega)
       have hwb : SlV Sb 2 symRow m (optL D) w := hw.mono gab (fun x hx => by simp at hx; omega)
       have hnb : Sb.next = Sa.next := by rw [← hSb]; rfl
       have hself : Sb.put a (.cells [v, w]) = Sb := put_self hab
       have hself2 : Sb.put (a + 1) (.cells [.int .i64 0]) = Sb := put_self hbb
       obtain ⟨Sc, xc, ec, gbc, hxc, hxc'⟩ := frz_slv1 hvb
       have hwc : SlV Sc 2 symRow m (optL D) w := hwb.mono gbc (fun b hb => by obtain ⟨e, o', l, he⟩ := hxc' b hb; exact .inl (hvm _ _ _ _ he))
       obtain ⟨Sd, xd, ed, gcd, hxd, -⟩ := frz_slv1 hwc
       have hbc := (gbc.get (a + 1) (by omega) (fun hh => by have := hxc _ hh; omega)).trans hbb
       have hnc := gbc.next
       have hbd := (gcd.get (a + 1) (by omega) (fun hh => by have := hxd _ hh; omega)).trans hbc
       have hself3 : Sd.put (a + 1) (.cells [.int .i64 0]) = Sd := put_self hbd
       have hqr := fun S' => caught_ret (n := n + 9) (S := S') _ (a + 1) 42 [] [.ptr a 0] rfl
       have gS : Grew [] S Sd := ((((g08.trans g89).trans g9a).behind gab (by simp; omega)).behind gbc (fun b hb => by have := hxc b hb; omega)).behind gcd (fun b hb => by have := hxd b hb; omega)
       refine ⟨Sd, ?_, gS, hC, hD⟩
       simp [ha8, ol_optL, hex2, hadj, hdif, c9, ca, v1, v2, v3, v4, v5, v6, v8, w1, w2, w3, w4, w5, w6, w8, ha9, hb9, haa, hSb, hself2, hab, hbb, hself, ec, ed, hbd, hself3, hqr, writeCells, takeCells_eq, isAggV]
     ·simp
     ·intro k hk'
      obtain ⟨p, hp⟩ : ∃ p, D[k]? = some p := ⟨_, List.getElem?_eq_getElem (by omega)⟩
      obtain ⟨q, hq⟩ : ∃ q, D[k + 1]? = some q := ⟨_, List.getElem?_eq_getElem (by omega)⟩
      have hle : (p.name == q.name) = false := beq_eq_false_iff_ne.2 (dif_step hdif hp hq)
      have ip := index_sv (own := false) (g := symRow) (o := optL D) (k := .i64) Try.underlying23 tycells64 (by rw [ol_optL]; exact hp)
      have iq := index_sv (own := false) (g := symRow) (o := optL D) (k := .i64) Try.underlying23 tycells64 (by rw [ol_optL]; exact hq)
      rw [show ((k + 1 : Nat) : Int) = (k : Int) + 1 from rfl] at iq
      have w1' : IntKind.i64.wrap (k : Int) = k := Go.IntWalk.i64_in _ (by omega)
      have w2 : IntKind.i64.wrap ((k : Int) + 1 + 1) = (k : Int) + 1 + 1 := Go.IntWalk.i64_in _ (by omega)
      have hlt : (k : Int) + 1 < (D.length : Int) := by omega
      simp [ha8, ol_optL, hlt]
      rw [evDraw_go]
      ·simp [ha8, ip, iq, hsk8, w1', w2, hle, nt]
      ·kernel_rfl
    ·have hfail : ∃ j ∈ List.range (D.length - 1), (fun j => difAt D (j + 1)) j = false := by
      unfold difOk at hdif
      rw [List.all_eq_true] at hdif
      apply Classical.byContradiction
      intro hno
      apply hdif
      intro j hj
      have hjl := List.mem_range.1 hj
      clear hj
      cases j with
      | zero => unfold difAt; split <;> simp
      | succ j =>
       cases hc : difAt D (j + 1) with
       | true => rfl
       | false => exact (hno ⟨j, List.mem_range.2 (by omega), hc⟩).elim
     have hml := spot_lt hfail
     have hyes : ∀ {j : Nat}, j < spot (fun j => difAt D (j + 1)) (List.range (D.length - 1)) → difAt D (j + 1) = true := fun {j} h =>
      spot_yes (fun j => difAt D (j + 1)) h (List.getElem?_range (by have := spot_le (fun j => difAt D (j + 1)) (List.range (D.length - 1)); rw [List.length_range] at this; omega))
     have hno := spot_no (fun j => difAt D (j + 1)) (ys := List.range (D.length - 1)) (y := spot (fun j => difAt D (j + 1)) (List.range (D.length - 1))) (List.getElem?_range (by rw [List.length_range] at hml; exact hml))
     rw [List.length_range] at hml
     generalize spot (fun j => difAt D (j + 1)) (List.range (D.length - 1)) = m at *
     rw [loop_go (fun k => { env := envOf 76 [(4, .ptr a 0), (5, .ptr (a + 1) 0), (6, .int .i64 ((L1 : Int) + 1)), (7, .int .i64 ((k : Int) + 1))], defs := [⟨.fn (.func 30) [], [.ptr (a + 1) 0, .fn (.func 42) [] [.ptr a 0]]⟩], par := .none, S := S8 }) m (by omega)]
     ·obtain ⟨p, hp⟩ : ∃ p, D[m]? = some p := ⟨_, List.getElem?_eq_getElem (by omega)⟩
      obtain ⟨q, hq⟩ : ∃ q, D[m + 1]? = some q := ⟨_, List.getElem?_eq_getElem (by omega)⟩
      have hgt : (p.name == q.name) = true := by
       unfold difAt at hno
       rw [hq] at hno
       simp only [Nat.add_sub_cancel, hp] at hno
       cases hc : p.name == q.name with
       | true => rfl
       | false => simp [hc] at hno
      have ip := index_sv (own := false) (g := symRow) (o := optL D) (k := .i64) Try.underlying23 tycells64 (by rw [ol_optL]; exact hp)
      have iq := index_sv (own := false) (g := symRow) (o := optL D) (k := .i64) Try.underlying23 tycells64 (by rw [ol_optL]; exact hq)
      rw [show ((m + 1 : Nat) : Int) = (m : Int) + 1 from rfl] at iq
      have w1' : IntKind.i64.wrap (m : Int) = m := Go.IntWalk.i64_in _ (by omega)
      have hlt : (m : Int) + 1 < (D.length : Int) := by omega
      obtain ⟨b1, b2, b3, b4⟩ := bad 281 S8 _ ha8 rfl hb8
      refine ⟨_, ?_, g08.behind b4 (by simp; omega), hC, hD⟩
      simp [ha8, ol_optL, hlt, hadj, hdif]
      rw [evDraw_go]
      ·simp [ha8, ip, iq, hsk8, w1', hgt, nf, dK_pan, getT_maskD, consumed, b1, b2, b3, takeCells_eq, isAggV, put_self b2, put_self b3]
      ·kernel_rfl
     ·simp
     ·intro k hk'
      obtain ⟨p, hp⟩ : ∃ p, D[k]? = some p := ⟨_, List.getElem?_eq_getElem (by omega)⟩
      obtain ⟨q, hq⟩ : ∃ q, D[k + 1]? = some q := ⟨_, List.getElem?_eq_getElem (by omega)⟩
      have hle : (p.name == q.name) = false := by
       have := hyes hk'
       unfold difAt at this
       rw [hq] at this
       simp only [Nat.add_sub_cancel, hp, Bool.or_eq_true, decide_eq_true_eq] at this
       rcases this with h | h
       ·omega
       ·simpa using h
      have ip := index_sv (own := false) (g := symRow) (o := optL D) (k := .i64) Try.underlying23 tycells64 (by rw [ol_optL]; exact hp)
      have iq := index_sv (own := false) (g := symRow) (o := optL D) (k := .i64) Try.underlying23 tycells64 (by rw [ol_optL]; exact hq)
      rw [show ((k + 1 : Nat) : Int) = (k : Int) + 1 from rfl] at iq
      have w1' : IntKind.i64.wrap (k : Int) = k := Go.IntWalk.i64_in _ (by omega)
      have w2 : IntKind.i64.wrap ((k : Int) + 1 + 1) = (k : Int) + 1 + 1 := Go.IntWalk.i64_in _ (by omega)
      have hlt : (k : Int) + 1 < (D.length : Int) := by omega
      simp [ha8, ol_optL, hlt]
      rw [evDraw_go]
      ·simp [ha8, ip, iq, hsk8, w1', w2, hle, nt]
      ·kernel_rfl
   ·simp
   ·intro k hk'
    obtain ⟨p, hp⟩ : ∃ p, C[k]? = some p := ⟨_, List.getElem?_eq_getElem (by omega)⟩
    obtain ⟨q, hq⟩ : ∃ q, C[k + 1]? = some q := ⟨_, List.getElem?_eq_getElem (by omega)⟩
    have hle : IntKind.i64.wrap (p.at' + (ol p.bytes).length) ≤ q.at' := adj_step hadj hp hq
    have ip := index_sv (own := false) (g := partRow) (o := optL C) (k := .i64) Try.underlying22 tycells45 (by rw [ol_optL]; exact hp)
    have iq := index_sv (own := false) (g := partRow) (o := optL C) (k := .i64) Try.underlying22 tycells45 (by rw [ol_optL]; exact hq)
    rw [show ((k + 1 : Nat) : Int) = (k : Int) + 1 from rfl] at iq
    have w1 : IntKind.i64.wrap ((k : Int) + 1 - 1) = k := by rw [show (k : Int) + 1 - 1 = ((k : Nat) : Int) by omega]; exact Go.IntWalk.i64_in _ (by omega)
    have w1' : IntKind.i64.wrap (k : Int) = k := Go.IntWalk.i64_in _ (by omega)
    have w2 : IntKind.i64.wrap ((k : Int) + 1 + 1) = (k : Int) + 1 + 1 := Go.IntWalk.i64_in _ (by omega)
    have hlt : (k : Int) + 1 < (C.length : Int) := by omega
    simp [ha8, ol_optL, hlt]
    rw [evDraw_go]
    ·simp [ha8, ip, iq, partRow, cend, hsk8, w1, w1', w2, hle, mt]
    ·kernel_rfl
  ·have hfail : ∃ j ∈ List.range (C.length - 1), (fun j => adjAt C (j + 1)) j = false := by
    unfold adjOk at hadj
    rw [List.all_eq_true] at hadj
    apply Classical.byContradiction
    intro hno
    apply hadj
    intro j hj
    have hjl := List.mem_range.1 hj
    clear hj
    cases j with
    | zero => unfold adjAt; split <;> simp
    | succ j =>
     cases hc : adjAt C (j + 1) with
     | true => rfl
     | false => exact (hno ⟨j, List.mem_range.2 (by omega), hc⟩).elim
   have hml := spot_lt hfail
   have hyes : ∀ {j : Nat}, j < spot (fun j => adjAt C (j + 1)) (List.range (C.length - 1)) → adjAt C (j + 1) = true := fun {j} h =>
    spot_yes (fun j => adjAt C (j + 1)) h (List.getElem?_range (by have := spot_le (fun j => adjAt C (j + 1)) (List.range (C.length - 1)); rw [List.length_range] at this; omega))
   have hno := spot_no (fun j => adjAt C (j + 1)) (ys := List.range (C.length - 1)) (y := spot (fun j => adjAt C (j + 1)) (List.range (C.length - 1))) (List.getElem?_range (by rw [List.length_range] at hml; exact hml))
   rw [List.length_range] at hml
   generalize spot (fun j => adjAt C (j + 1)) (List.range (C.length - 1)) = m at *
   rw [loop_go (fun k => { env := envOf 76 [(4, .ptr a 0), (5, .ptr (a + 1) 0), (6, .int .i64 ((k : Int) + 1)), (7, .undef)], defs := [⟨.fn (.func 30) [], [.ptr (a + 1) 0, .fn (.func 42) [] [.ptr a 0]]⟩], par := .none, S := S8 }) m (by omega)]
   ·obtain ⟨p, hp⟩ : ∃ p, C[m]? = some p := ⟨_, List.getElem?_eq_getElem (by omega)⟩
    obtain ⟨q, hq⟩ : ∃ q, C[m + 1]? = some q := ⟨_, List.getElem?_eq_getElem (by omega)⟩
    have hgt : ¬ IntKind.i64.wrap (p.at' + (ol p.bytes).length) ≤ q.at' := fun h => by
     unfold adjAt at hno
     rw [hq] at hno
     simp only [Nat.add_sub_cancel, hp] at hno
     have : endI p ≤ q.at' := h
     simp [this] at hno
    have ip := index_sv (own := false) (g := partRow) (o := optL C) (k := .i64) Try.underlying22 tycells45 (by rw [ol_optL]; exact hp)
    have iq := index_sv (own := false) (g := partRow) (o := optL C) (k := .i64) Try.underlying22 tycells45 (by rw [ol_optL]; exact hq)
    rw [show ((m + 1 : Nat) : Int) = (m : Int) + 1 from rfl] at iq
    have w1' : IntKind.i64.wrap (m : Int) = m := Go.IntWalk.i64_in _ (by omega)
    have hlt : (m : Int) + 1 < (C.length : Int) := by omega
    obtain ⟨b1, b2, b3, b4⟩ := bad 311 S8 _ ha8 rfl hb8
    refine ⟨_, ?_, g08.behind b4 (by simp; omega), hC, hD⟩
    simp [ha8, ol_optL, hlt, hadj]
    rw [evDraw_go]
    ·simp [ha8, ip, iq, partRow, cend, hsk8, w1', hgt, mf, dK_pan, getT_maskD, consumed, b1, b2, b3, takeCells_eq, isAggV, put_self b2, put_self b3]
    ·kernel_rfl
   ·simp
   ·intro k hk'
    obtain ⟨p, hp⟩ : ∃ p, C[k]? = some p := ⟨_, List.getElem?_eq_getElem (by omega)⟩
    obtain ⟨q, hq⟩ : ∃ q, C[k + 1]? = some q := ⟨_, List.getElem?_eq_getElem (by omega)⟩
    have hle : IntKind.i64.wrap (p.at' + (ol p.bytes).length) ≤ q.at' := by
     have := hyes hk'
     unfold adjAt at this
     rw [hq] at this
     simp only [Nat.add_sub_cancel, hp, Bool.or_eq_true, decide_eq_true_eq] at this
     rcases this with h | h
     ·omega
     ·exact h
    have ip := index_sv (own := false) (g := partRow) (o := optL C) (k := .i64) Try.underlying22 tycells45 (by rw [ol_optL]; exact hp)
    have iq := index_sv (own := false) (g := partRow) (o := optL C) (k := .i64) Try.underlying22 tycells45 (by rw [ol_optL]; exact hq)
    rw [show ((k + 1 : Nat) : Int) = (k : Int) + 1 from rfl] at iq
    have w1 : IntKind.i64.wrap ((k : Int) + 1 - 1) = k := by rw [show (k : Int) + 1 - 1 = ((k : Nat) : Int) by omega]; exact Go.IntWalk.i64_in _ (by omega)
    have w1' : IntKind.i64.wrap (k : Int) = k := Go.IntWalk.i64_in _ (by omega)
    have w2 : IntKind.i64.wrap ((k : Int) + 1 + 1) = (k : Int) + 1 + 1 := Go.IntWalk.i64_in _ (by omega)
    have hlt : (k : Int) + 1 < (C.length : Int) := by omega
    simp [ha8, ol_optL, hlt]
    rw [evDraw_go]
    ·simp [ha8, ip, iq, partRow, cend, hsk8, w1, w1', w2, hle, mt]
    ·kernel_rfl
 ·kernel_rfl
end Go.Ab.Seat
namespace Go.Ab.Seat
open Go.Proofs Srt
set_option maxRecDepth 100000
set_option maxHeartbeats 4000000
variable {H : Handler} {N : Nat} {S : Sto}
def allP (A B : FileV) : Bool := (ol A.parts).all (clearP (ol B.parts))
def allN (A B : FileV) : Bool := (ol A.names).all (clearN (ol B.names))
def rjoinV (A B : FileV) : AV :=
 if (rightOk A && rightOk B) = true then (if allP A B = true then (if allN A B = true then (if rightOk (joinF A B) = true then .tup [.agg (fileC (joinF A B)), .int .i64 0] else errK 310) else errK 281) else errK 311) else errK 310
theorem refJoin_run {n : Nat} (A B : FileV) (hA : (ol A.parts).length ≤ 80) (hB : (ol B.parts).length ≤ 80) (hNA : (ol A.names).length ≤ 80) (hNB : (ol B.names).length ≤ 80) (hN : 200 < N) (hs1 : Small A 6500) (hs2 : Small B 6500) (hn : 6600 < n) (hk0 : SOK S) :
  runFn Try.prog (handler Try.prog ppol n) N ppol 15 .none [.agg (fileC A), .agg (fileC B)] S = some (.ret (rjoinV A B), .none, S) := by
 have hckA := refCheck_callN (N := n) (S := S) A hs1 hn
 have hckB := refCheck_callN (N := n) (S := S) B hs2 hn
 unfold chk at hckA hckB
 unfold rjoinV
 cases hok : rightOk A <;> rw [hok] at hckA
 ·rw [runFn_eq Try.func15 (by rfl)]
  simp [Try.f15, hckA, build25, writeCells, takeCells_eq, errK]
 cases hokB : rightOk B <;> rw [hokB] at hckB
 ·rw [runFn_eq Try.func15 (by rfl)]
  simp [Try.f15, hckA, hckB, build25, writeCells, takeCells_eq, errK]
 cases hp : allP A B
 ·unfold allP at hp
  rw [List.all_eq_false] at hp
  obtain ⟨a, ha, h⟩ := hp
  rw [joinA A B hA hB hNA hNB hN hok hokB hs1 hs2 hn hk0 ⟨a, ha, by simpa using h⟩]
  rfl
 unfold allP at hp
 rw [List.all_eq_true] at hp
 cases hq : allN A B
 ·unfold allN at hq
  rw [List.all_eq_false] at hq
  obtain ⟨a, ha, h⟩ := hq
  rw [joinN A B hA hB hNA hNB hN hok hokB hs1 hs2 hn hk0 hp ⟨a, ha, by simpa using h⟩]
  rfl
 unfold allN at hq
 rw [List.all_eq_true] at hq
 rw [joinOk A B hA hB hNA hNB hN hok hokB hs1 hs2 hn hk0 hp hq]
 rfl
theorem join_both {A B : FileV} {C : List PartV} {D : List SymV} (hok : rightOk A = true) (hokB : rightOk B = true) (hC : Sorted (fun x y => liesC x y < 0) (ol A.parts ++ ol B.parts) C) (hD : Sorted (fun x y => namesC x y < 0) (ol A.names ++ ol B.names) D) :
  adjOk C = allP A B ∧ difOk D = allN A B ∧ (adjOk C = true → C = ol (joinF A B).parts) ∧ (difOk D = true → D = ol (joinF A B).names) := by
 have hk : (fun x y : PartV => liesC x y < 0) = fun x y => x.at' < y.at' := by funext x y; exact propext (cmpI_neg _ _)
 have hk2 : (fun x y : SymV => namesC x y < 0) = fun x y => bl x.name y.name := by funext x y; exact propext (cmpB_neg _ _)
 rw [hk] at hC
 rw [hk2] at hD
 have a1 := rightOk_parts hok
 have a2 := rightOk_parts hokB
 have b1 := rightOk_names hok
 have b2 := rightOk_names hokB
 have p := hC.perm
 have q := hD.perm
 have sC := hC.le liesWO
 have sD := hD.le namesWO
 have j1 := join_adj a1 a2 p sC
 have j2 := join_dif b1 b2 q sD
 refine ⟨?_, ?_, fun h => ?_, fun h => ?_⟩
 ·rw [Bool.eq_iff_iff, j1]
  unfold allP clearP
  simp only [List.all_eq_true, Bool.not_eq_true']
 ·rw [Bool.eq_iff_iff, j2]
  unfold allN clearN
  simp only [List.all_eq_true, Bool.not_eq_true']
 ·rw [show (joinF A B).parts = oAt beforeP A.parts (ol B.parts) (ol B.parts).length from rfl, ol_oAt, List.take_of_length_le (Nat.le_refl _)]
  exact join_parts a1 a2 p sC h
 ·rw [show (joinF A B).names = oAt before A.names (ol B.names) (ol B.names).length from rfl, ol_oAt, List.take_of_length_le (Nat.le_refl _)]
  exact join_names b1 q sD h
theorem join_callN (A B : FileV) (h1 : Small A 6500) (h2 : Small B 6500) (hN : 7000 < N) (hk : SOK S) (pa : (ol A.parts).length ≤ 80) (pb : (ol B.parts).length ≤ 80) (na : (ol A.names).length ≤ 80) (nb : (ol B.names).length ≤ 80) :
  ∃ C D S', (handler Try.prog ppol N).call (.func 14) [.agg (fileC A), .agg (fileC B)] S = some (.ret (pjoinV A B C D), S') ∧ Grew [] S S' ∧ Sorted (fun x y => liesC x y < 0) (ol A.parts ++ ol B.parts) C ∧ Sorted (fun x y => namesC x y < 0) (ol A.names ++ ol B.names) D := by
 obtain ⟨n, rfl⟩ : ∃ n, N = n + 11 := ⟨N - 11, by omega⟩
 obtain ⟨C, D, S', e, h⟩ := join_run (n := n) (S := S) A B (h1.up (by omega)) (h2.up (by omega)) hk pa pb na nb
 exact ⟨C, D, S', by rw [call_func (by rfl), e]; rfl, h⟩
theorem refJoin_callN (A B : FileV) (hA : (ol A.parts).length ≤ 80) (hB : (ol B.parts).length ≤ 80) (hNA : (ol A.names).length ≤ 80) (hNB : (ol B.names).length ≤ 80) (hs1 : Small A 6500) (hs2 : Small B 6500) (hN : 7000 < N) (hk0 : SOK S) :
  (handler Try.prog ppol N).call (.func 15) [.agg (fileC A), .agg (fileC B)] S = some (.ret (rjoinV A B), S) := by
 obtain ⟨n, rfl⟩ : ∃ n, N = n + 1 := ⟨N - 1, by omega⟩
 rw [call_func (by rfl), refJoin_run A B hA hB hNA hNB (by omega) hs1 hs2 (by omega) hk0]; rfl
end Go.Ab.Seat
namespace Go.Ab.Seat
open Go.Proofs Srt
set_option maxRecDepth 100000
set_option maxHeartbeats 4000000
variable {H : Handler} {N : Nat} {S : Sto}
theorem joins_tell {A B : FileV} {C : List PartV} {D : List SymV} (pa : (ol A.parts).length ≤ 80) (pb : (ol B.parts).length ≤ 80) (na : (ol A.names).length ≤ 80) (nb : (ol B.names).length ≤ 80) (hC : Sorted (fun x y => liesC x y < 0) (ol A.parts ++ ol B.parts) C) (hD : Sorted (fun x y => namesC x y < 0) (ol A.names ++ ol B.names) D) :
  ∃ (F G : FileV) (e : Int), pjoinV A B C D = .tup [.agg (fileC F), .int .i64 e] ∧ rjoinV A B = .tup [.agg (fileC G), .int .i64 e] ∧ ol F.parts = ol G.parts ∧ ol F.names = ol G.names ∧ (ol F.parts).length < 2 ^ 13 ∧ (ol F.names).length < 2 ^ 13 ∧ (e = 0 → rightOk F = true ∧ ol F.parts = C) := by
 have lC : C.length ≤ 160 := by have := hC.perm.length_eq; simp at this; omega
 have lD : D.length ≤ 160 := by have := hD.perm.length_eq; simp at this; omega
 have none : ∀ k : Int, k ≠ 0 → ∃ (F G : FileV) (e : Int), errK k = .tup [.agg (fileC F), .int .i64 e] ∧ errK k = .tup [.agg (fileC G), .int .i64 e] ∧ ol F.parts = ol G.parts ∧ ol F.names = ol G.names ∧ (ol F.parts).length < 2 ^ 13 ∧ (ol F.names).length < 2 ^ 13 ∧ (e = 0 → rightOk F = true ∧ ol F.parts = C) :=
  fun k hk => ⟨noneF, noneF, k, rfl, rfl, rfl, rfl, by simp [noneF, ol], by simp [noneF, ol], fun h => absurd h hk⟩
 unfold pjoinV rjoinV
 by_cases hr : (rightOk A && rightOk B) = true
 ·rw [if_pos hr, if_pos hr]
  simp only [Bool.and_eq_true] at hr
  obtain ⟨j1, j2, j3, j4⟩ := join_both hr.1 hr.2 hC hD
  rw [← j1, ← j2]
  by_cases h1 : adjOk C = true
  ·rw [if_pos h1, if_pos h1]
   by_cases h2 : difOk D = true
   ·rw [if_pos h2, if_pos h2]
    have e1 : ol (⟨optL C, optL D⟩ : FileV).parts = ol (joinF A B).parts := by show ol (optL C) = _; rw [ol_optL]; exact j3 h1
    have e2 : ol (⟨optL C, optL D⟩ : FileV).names = ol (joinF A B).names := by show ol (optL D) = _; rw [ol_optL]; exact j4 h2
    have er := rightOk_ol e1 e2
    by_cases h3 : rightOk (joinF A B) = true
    ·rw [if_pos h3, if_pos (er.trans h3)]
     exact ⟨_, _, 0, rfl, rfl, e1, e2, by show (ol (optL C)).length < _; rw [ol_optL]; omega, by show (ol (optL D)).length < _; rw [ol_optL]; omega, fun _ => ⟨er.trans h3, ol_optL C⟩⟩
    ·rw [if_neg h3, if_neg (fun h => h3 (er.symm.trans h))]
     exact none 310 (by decide)
   ·rw [if_neg h2, if_neg h2]
    exact none 281 (by decide)
  ·rw [if_neg h1, if_neg h1]
   exact none 311 (by decide)
 ·rw [if_neg hr, if_neg hr]
  exact none 310 (by decide)
theorem build45z : buildA Try.prog 45 [] = some (.agg [.int .i64 0, .nilsl]) := by kernel_rfl
theorem joins_run (A B : FileV) (hm : 2 ^ 20 + 200 < N) (hk : SOK S) :
  ∃ S', runFn Try.prog (handler Try.prog ppol N) N ppol 4 .none [.agg (fileC A), .agg (fileC B)] S = some (.ret (.bool true), .none, S') := by
 have cw := fun S => works_call (N := N) (S := S) (by omega)
 have cn := fun S e => num_call (N := N) (S := S) e (by omega)
 have cfA := few_call (N := N) (S := S) A (by omega)
 have cfB := few_call (N := N) (S := S) B (by omega)
 rw [runFn_eq Try.func4 (by rfl)]
 cases hfA : fewOf A <;> rw [hfA] at cfA
 ·refine ⟨S, ?_⟩
  simp [Try.f4, cfA, cw]
 cases hfB : fewOf B <;> rw [hfB] at cfB
 ·refine ⟨S, ?_⟩
  simp [Try.f4, cfA, cfB, cw]
 have hsA := few_small (n := 6500) hfA (by omega)
 have hsB := few_small (n := 6500) hfB (by omega)
 have few2 : ∀ {f : FileV}, fewOf f = true → (ol f.parts).length ≤ 80 ∧ (ol f.names).length ≤ 80 := fun h => by
  unfold fewOf at h
  simp only [Bool.and_eq_true, decide_eq_true_eq] at h
  exact ⟨h.1.1.2, h.1.2⟩
 obtain ⟨pa, na⟩ := few2 hfA
 obtain ⟨pb, nb⟩ := few2 hfB
 obtain ⟨C, D, S1, c14, g1, hC, hD⟩ := join_callN (N := N) (S := S) A B hsA hsB (by omega) hk pa pb na nb
 have hk1 := g1.sok hk
 have c15 := refJoin_callN (N := N) (S := S1) A B pa pb na nb hsA hsB (by omega) hk1
 obtain ⟨F, G, e, hv, hw, s1, s2, l1, l2, h0⟩ := joins_tell pa pb na nb hC hD
 rw [hv] at c14
 rw [hw] at c15
 have cs := refSame_callN (N := N) (S := S1) F G (SameF.of s1 s2) l1 l2 (by omega) hk1
 by_cases he : e = 0
 ·obtain ⟨hokF, hFC⟩ := h0 he
  subst he
  obtain ⟨hsz1, hsz2⟩ := rightOk_sizes hokF
  obtain ⟨zs, S2, c16, g2, hzs⟩ := flat_callN (N := N) (S := S1) F ⟨by omega, by omega, by omega⟩ (by omega) (by omega) hk1
  have hk2 := g2.sok hk1
  have hpv : pflatV F zs = .tup [.agg [sv false 1 byteRow (flatO C), sv false 2 symRow (optL zs)], .int .i64 0] := by unfold pflatV; rw [if_pos hokF, hFC]
  rw [hpv] at c16
  refine ⟨S2, ?_⟩
  simp [Try.f4, cfA, cfB, c14, c15, cs, cn, c16, writeCells]
  have w0 : IntKind.i64.wrap (((ol A.parts).length : Int) + ((ol B.parts).length : Int)) = (((ol A.parts).length + (ol B.parts).length : Nat) : Int) := by rw [← Int.natCast_add]; exact Go.IntWalk.i64_in _ (by omega)
  have hpbC : pBad 0 C = false := by rw [← hFC]; exact rightOk_parts hokF
  have cend := cend_of (S := S2) (n := N) (by omega)
  have hsk := fun x => sK_self (α := AExit × St) hk2 x
  generalize hLL : (ol A.parts).length + (ol B.parts).length = LL at *
  rw [loop_go (fun k => { env := envOf 107 [(2, .box (fileC A)), (3, .box (fileC B)), (9, .box [sv false 1 byteRow (flatO C), sv false 2 symRow (optL zs)]), (11, .int .i64 k)], defs := [], par := .none, S := S2 }) LL (by omega)]
  ·simp [fileC, w0, cw]
  ·simp [fileC]
  ·intro k hk'
   obtain ⟨p, hpC, hpc⟩ : ∃ p, p ∈ C ∧ ((k < (ol A.parts).length ∧ (ol A.parts)[k]? = some p) ∨ ((ol A.parts).length ≤ k ∧ (ol B.parts)[k - (ol A.parts).length]? = some p)) := by
    rcases Nat.lt_or_ge k (ol A.parts).length with h | h
    ·exact ⟨(ol A.parts)[k], hC.perm.mem_iff.2 (List.mem_append.2 (.inl (List.getElem_mem h))), .inl ⟨h, List.getElem?_eq_getElem h⟩⟩
    ·have hb : k - (ol A.parts).length < (ol B.parts).length := by omega
     exact ⟨(ol B.parts)[k - (ol A.parts).length], hC.perm.mem_iff.2 (List.mem_append.2 (.inr (List.getElem_mem hb))), .inr ⟨h, List.getElem?_eq_getElem hb⟩⟩
   obtain ⟨i, hi⟩ := List.mem_iff_getElem?.1 hpC
   have hil := (List.getElem?_eq_some_iff.1 hi).1
   obtain ⟨f1, f2⟩ := flat_put hpbC i p hi C.length hil
   rw [List.take_of_length_le (Nat.le_refl _)] at f1 f2
   obtain ⟨v1, v2, v3⟩ := valid_each hpbC p hpC
   have hend : IntKind.i64.wrap ((atN p : Int) + (ol p.bytes).length) = (endN p : Int) := by rw [← v1]; exact v2
   have hfo : flatO C = some (flatB C) := by unfold flatO; rw [if_neg (fun h => by rw [h] at hil; simp at hil)]
   have hle : atN p ≤ endN p := by unfold endN; omega
   have hsl := slice_lohi (P := Try.prog) (own := false) (es := 1) (rows := (flatB C).map byteRow) (k := endN p) (l := atN p) (kk := .i64) (kl := .i64) Try.underlying28 tycells5 (by simpa using f1) hle
   rw [Bool.false_and, ← List.map_take, ← List.map_drop, show ((flatB C).take (endN p)).drop (atN p) = ol p.bytes by rw [List.drop_take, ← f2]; unfold endN; rw [Nat.add_sub_cancel_left]] at hsl
   have hcv := conv_str false (ol p.bytes)
   have g7 : IntKind.i64.wrap ((k : Int) + 1) = (k : Int) + 1 := Go.IntWalk.i64_in _ (by omega)
   have hgt : ¬ (((flatB C).length : Int) < (endN p : Int)) := by omega
   have hkl : (k : Int) < ((LL : Nat) : Int) := by omega
   rw [hfo, sv_some]
   generalize flatB C = FB at *
   rcases hpc with ⟨h1, h2⟩ | ⟨h1, h2⟩
   ·have hix := index_sv (own := false) (g := partRow) (k := .i64) Try.underlying22 tycells45 h2
    have hk1' : (k : Int) < (ol A.parts).length := by omega
    simp [fileC, w0, hkl, hk1', hix, build45z, writeCells, partRow, v1]
    rw [evDraw_go]
    ·simp [lenA, cend, hsk, hend, hgt, hsl, hcv, conv_sv, g7]
    ·kernel_rfl
   ·have hix := index_sv (own := false) (g := partRow) (k := .i64) Try.underlying22 tycells45 h2
    have hk1' : ¬ (k : Int) < (ol A.parts).length := by omega
    have w3 : IntKind.i64.wrap ((k : Int) - ((ol A.parts).length : Int)) = ((k - (ol A.parts).length : Nat) : Int) := by
     rw [show (k : Int) - ((ol A.parts).length : Int) = ((k - (ol A.parts).length : Nat) : Int) by omega]; exact Go.IntWalk.i64_in _ (by omega)
    simp [fileC, w0, hkl, hk1', w3, hix, build45z, writeCells, partRow, v1]
    rw [evDraw_go]
    ·simp [lenA, cend, hsk, hend, hgt, hsl, hcv, conv_sv, g7]
    ·kernel_rfl
 ·refine ⟨S1, ?_⟩
  have hne : (e != 0) = true := by simpa using he
  simp [Try.f4, cfA, cfB, c14, c15, cs, cn, hne, cw, writeCells]
end Go.Ab.Seat
