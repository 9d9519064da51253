/- Joining image files in the program answers as joining them in the document does, whatever the two files (pomanderlaw21.ImageJoins). No conditions. -/
import Derived.Test.YtooahmehpnbfgaaP09
namespace Go.Ab.Seat
open Go.Proofs Srt
set_option maxRecDepth 100000
set_option maxHeartbeats 40000000
variable {H : Handler} {N : Nat} {S : Sto}
theorem symP {n id g K : Nat} {c : PartV → PartV → Int} (hc : CmpP g K c) (hn : n < 2 ^ 28) : ∀ (w a m b : Nat) (d : DP) (S : Sto) (k : Nat), b - a ≤ w → a < m → m < b → b ≤ n → K + w + 2 * n + 10 ≤ k →
  SortedOn (lexC c) d a m → SortedOn (lexC c) d m b → PL d a m b → S.get id = some (arrD n d) → SOK S → ∃ d', SymC n id g c k a m b d S d'
 | 0, a, m, b, _, _, _, hw, h1, h2, _, _, _, _, _, _, _ => by omega
 | w + 1, a, m, b, d, S, k, hw, h1, h2, hb, hk, s1, s2, hp, hS, hK => by
  obtain ⟨k', rfl⟩ : ∃ k', k = k' + 1 := ⟨k - 1, by omega⟩
  have fin : ∀ d', Perm a b d d' → SortedOn (lexC c) d' a b → runFn Try.prog (handler Try.prog ppol k') k' ppol 105 .none [.rsl id 2 0 n, .int .i64 a, .int .i64 m, .int .i64 b, .fn (.func g) [] []] S = some (.ret .undef, .none, S.put id (arrD n d')) → SymC n id g c (k' + 1) a m b d S d' := fun d' p s h => ⟨p, s, by rw [call_func (by rfl), h]; rfl⟩
  by_cases e1 : m = a + 1
  ·subst e1
   obtain ⟨d', p, s, h⟩ := symP_left (k' := k') (N := k') hc (by omega) a b d (by omega) (by omega) hb (by omega) s2 hp hS hK
   exact ⟨d', fin d' p s h⟩
  ·by_cases e2 : b = m + 1
   ·subst e2
    obtain ⟨d', p, s, h⟩ := symP_right (k' := k') (N := k') hc (by omega) a m d (by omega) (by omega) hb (by omega) s1 hp hS hK
    exact ⟨d', fin d' p s h⟩
   ·have ih : ∀ a' m' b' (d1 : DP) (S1 : Sto), b' - a' < b - a → a' < m' → m' < b' → b' ≤ n → SortedOn (lexC c) d1 a' m' → SortedOn (lexC c) d1 m' b' → PL d1 a' m' b' → S1.get id = some (arrD n d1) → SOK S1 → ∃ d', SymC n id g c k' a' m' b' d1 S1 d' :=
     fun a' m' b' d1 S1 q1 q2 q3 q4 q5 q6 q7 q8 q9 => symP hc hn w a' m' b' d1 S1 k' (by omega) q2 q3 q4 (by omega) q5 q6 q7 q8 q9
    by_cases hm : (a + b) / 2 < m
    ·obtain ⟨d', p, s, h⟩ := symP_main1 (k' := k') (N := k') hc (by omega) a m b d hn (by omega) (by omega) hb (by omega) (by omega) s1 s2 hp hS hK _ rfl hm ih
     exact ⟨d', fin d' p s h⟩
    ·obtain ⟨d', p, s, h⟩ := symP_main2 (k' := k') (N := k') hc (by omega) a m b d hn (by omega) (by omega) hb (by omega) (by omega) s1 s2 hp hS hK _ rfl (by omega) ih
     exact ⟨d', fin d' p s h⟩
structure St1 (c : PartV → PartV → Int) (n : Nat) (d0 : DP) where
 k : Nat
 d : DP
 kn : 20 * k ≤ n
 pm : Perm 0 n d0 d
 so : ∀ j, j < k → SortedOn (lexC c) d (20 * j) (20 * j + 20)
 qb : Qb 20 n d 0
 fa : ∀ q, 20 * k ≤ q → d q = d0 q
def St1E (S : Sto) (id n : Nat) (g : FuncId) {c : PartV → PartV → Int} {d0 : DP} (x : St1 c n d0) : St :=
 { env := envOf 63 [(0, .rsl id 2 0 n), (1, .int .i64 n), (2, .fn (.func g) [] []), (6, .int .i64 20), (7, .int .i64 (20 * x.k : Nat)), (8, .int .i64 (20 * x.k + 20 : Nat))], defs := [], par := .none, S := S.put id (arrD n x.d) }
structure St2 (c : PartV → PartV → Int) (n : Nat) (d0 : DP) where
 w : Nat
 d : DP
 x7 : AV
 x8 : AV
 w20 : 20 ≤ w
 wn : w ≤ 2 * n + 20
 pm : Perm 0 n d0 d
 so : ∀ j, SortedOn (lexC c) d (w * j) (min (w * j + w) n)
 qb : Qb w n d 0
def St2E (S : Sto) (id n : Nat) (g : FuncId) {c : PartV → PartV → Int} {d0 : DP} (x : St2 c n d0) : St :=
 { env := envOf 63 [(0, .rsl id 2 0 n), (1, .int .i64 n), (2, .fn (.func g) [] []), (6, .int .i64 x.w), (7, x.x7), (8, x.x8)], defs := [], par := .none, S := S.put id (arrD n x.d) }
structure St3 (c : PartV → PartV → Int) (n : Nat) (d0 : DP) (w : Nat) where
 k : Nat
 d : DP
 kn : 2 * w * k ≤ n
 pm : Perm 0 n d0 d
 so1 : ∀ j, j < k → SortedOn (lexC c) d (2 * w * j) (2 * w * j + 2 * w)
 so2 : ∀ j, 2 * k ≤ j → SortedOn (lexC c) d (w * j) (min (w * j + w) n)
 qb1 : Qb w n d (2 * w * k)
 qb2 : Qb (2 * w) n d 0
def St3E (S : Sto) (id n : Nat) (g : FuncId) (w : Nat) {c : PartV → PartV → Int} {d0 : DP} (x : St3 c n d0 w) : St :=
 { env := envOf 63 [(0, .rsl id 2 0 n), (1, .int .i64 n), (2, .fn (.func g) [] []), (6, .int .i64 w), (7, .int .i64 (2 * w * x.k : Nat)), (8, .int .i64 (2 * w * x.k + 2 * w : Nat))], defs := [], par := .none, S := S.put id (arrD n x.d) }
theorem sq1 (w k : Nat) : w * (2 * k) = 2 * w * k := by rw [← Nat.mul_assoc, Nat.mul_comm w 2]
theorem sq2 (w k : Nat) : w * (2 * k + 1) = 2 * w * k + w := by rw [Nat.mul_succ, sq1]
theorem st3_merge {c : PartV → PartV → Int} {n w b : Nat} {d0 : DP} (hw : 20 ≤ w) (x : St3 c n d0 w) {d' : DP} (hb1 : 2 * w * x.k + w < b) (hb2 : b ≤ 2 * w * x.k + 2 * w) (hb3 : b ≤ n) (p : Perm (2 * w * x.k) b x.d d') (s : SortedOn (lexC c) d' (2 * w * x.k) b) :
  Perm 0 n d0 d' ∧ (∀ j, j < x.k → SortedOn (lexC c) d' (2 * w * j) (2 * w * j + 2 * w)) ∧ (∀ j, w * j ≥ b → SortedOn (lexC c) d' (w * j) (min (w * j + w) n)) ∧ (∀ c, b ≤ c → 2 * w * x.k ≤ c → Qb w n d' c) ∧ Qb (2 * w) n d' 0 := by
 refine ⟨x.pm.trans (p.mono (by omega) hb3), fun j hj => ?_, fun j hj => ?_, fun c hc hc2 => ?_, x.qb2.perm (by omega) p hb3 ⟨x.k, Nat.le_refl _, hb2⟩ (.inl (by omega))⟩
 ·refine sorted_far (x.so1 j hj) p (.inl ?_)
  have := Nat.mul_le_mul_left (2 * w) (show j + 1 ≤ x.k by omega)
  rw [Nat.mul_succ] at this
  exact this
 ·have hk : 2 * x.k ≤ j := by
   by_cases h : 2 * x.k ≤ j
   ·exact h
   ·exfalso
    have := Nat.mul_le_mul_left w (show j + 1 ≤ 2 * x.k by omega)
    rw [Nat.mul_succ, sq1] at this
    omega
  exact sorted_far (x.so2 j hk) p (.inr hj)
 ·intro i h1 h2
  rw [p.out (by omega)]
  exact x.qb1 i (by omega) h2
theorem st3_pl {c : PartV → PartV → Int} {n w b : Nat} {d0 : DP} (hw : 20 ≤ w) (x : St3 c n d0 w) (hb2 : b ≤ 2 * w * x.k + 2 * w) (hb3 : b ≤ n) : PL x.d (2 * w * x.k) (2 * w * x.k + w) b := fun i j i1 i2 j1 j2 => by
 refine x.qb1.lt i1 (by omega) ?_ (by omega) (by omega)
 rw [blk_div (k := 2 * x.k) (by omega) (by rw [sq1]; exact i1) (by rw [sq1]; exact i2), blk_div (k := 2 * x.k + 1) (by omega) (by rw [sq2]; exact j1) (by rw [sq2]; omega)]
 omega
theorem stabP_run {n id g K k' : Nat} {c : PartV → PartV → Int} (hc : CmpP g K c) (hk : K + 3 * n + 20 ≤ k') (f : Nat → PartV) (hn : n < 2 ^ 20) (hN : n + n + 30 < N) (hS : S.get id = some (arrP n f)) (hK : SOK S) :
  ∃ d : DP, Perm 0 n (fun i => (f i, i)) d ∧ SortedOn (lexC c) d 0 n ∧ runFn Try.prog (handler Try.prog ppol k') N ppol 101 .none [.rsl id 2 0 n, .int .i64 n, .fn (.func g) [] []] S = some (.ret .undef, .none, S.put id (arrD n d)) := by
 obtain ⟨k2, rfl⟩ : ∃ k2, k' = k2 + 1 := ⟨k' - 1, by omega⟩
 obtain ⟨d0, hd0⟩ : ∃ d0 : DP, (fun i => (f i, i)) = d0 := ⟨_, rfl⟩
 have hS0 : S.get id = some (arrD n d0) := by rw [hS, ← hd0]; rfl
 have hid : ∀ i, (d0 i).2 = i := fun i => by rw [← hd0]
 have hpl : ∀ a b, SortedOn plt d0 a b := fun a b i j _ hij _ => by show (d0 i).2 < (d0 j).2; rw [hid, hid]; exact hij
 have f0 : n < 2 ^ 28 := by omega
 have f2 : K + n + 2 * n + 10 ≤ k2 + 1 := by omega
 rw [hd0, runFn_eq Try.func101 (by rfl)]
 clear hd0
 simp [Try.f101]
 generalize hL : loopN _ _ _ _ = L
 obtain ⟨x, st', rfl, hT⟩ := loop_fam' hL (St1E S id n g (c := c) (d0 := d0)) (fun _ r => ∃ x : St1 c n d0, ¬ (20 * x.k + 20 ≤ n) ∧ r = (.exit 0, { env := envOf 63 [(13, .bool false), (12, .int .i64 n), (11, .int .i64 (20 * x.k + 20 : Nat)), (0, .rsl id 2 0 n), (1, .int .i64 n), (2, .fn (.func g) [] []), (6, .int .i64 20), (7, .int .i64 (20 * x.k : Nat)), (8, .int .i64 (20 * x.k + 20 : Nat))], defs := [], par := .none, S := S.put id (arrD n x.d) })) (fun x => n - x.k)
  ⟨0, d0, by omega, Perm.refl _ _ _, fun _ h => by omega, fun i _ _ => by rw [hid], fun _ _ => rfl⟩ (by show n - 0 < N; omega) (by simp [St1E, put_self hS0]) (fun x => by
  clear hL
  by_cases hb : 20 * x.k + 20 ≤ n
  ·have c1 : ((20 * x.k + 20 : Nat) : Int) ≤ n := by omega
   obtain ⟨d', p, s, hcall⟩ := insP_call (S := S.put id (arrD n x.d)) hc (k' := k2) (by omega) (20 * x.k) (20 * x.k + 20) x.d (by omega) (by omega) hb (by omega) (fun i j i1 hij j1 => by rw [x.fa i i1, x.fa j (by omega)]; exact hpl _ _ i j i1 hij j1) (get_put_self hS0) (hK.put (good_arrD _ _))
   rw [put_put] at hcall
   have w1 : IntKind.i64.wrap (((20 * x.k + 20 : Nat) : Int) + 20) = ((20 * (x.k + 1) + 20 : Nat) : Int) := by rw [show (((20 * x.k + 20 : Nat) : Int) + 20) = ((20 * (x.k + 1) + 20 : Nat) : Int) by omega]; exact Go.IntWalk.i64_in _ (by omega)
   simp [St1E, c1, hcall, w1, -Int.natCast_add, -Int.natCast_mul]
   refine ⟨⟨x.k + 1, d', by omega, x.pm.trans (p.mono (by omega) hb), fun j hj => ?_, x.qb.perm (by omega) p hb ⟨x.k, Nat.le_refl _, Nat.le_refl _⟩ (.inl (by omega)), fun q hq => ?_⟩, ?_, ?_⟩
   ·by_cases e : j = x.k
    ·rw [e]; exact s
    ·exact sorted_far (x.so j (by omega)) p (.inl (by omega))
   ·rw [p.out (by omega)]; exact x.fa q (by omega)
   ·show n - (x.k + 1) < n - x.k; omega
   ·simp [show 20 * (x.k + 1) = 20 * x.k + 20 by omega]
  ·have c1 : ¬ ((20 * x.k + 20 : Nat) : Int) ≤ n := by omega
   simp [St1E, c1, -Int.natCast_add, -Int.natCast_mul]
   exact ⟨x, by omega, by simp⟩)
 clear hL
 obtain ⟨x, hx, he⟩ := hT
 obtain ⟨rfl, rfl⟩ := Prod.mk.inj he
 clear he
 obtain ⟨d1, p1, s1, hcall⟩ := insP_call (S := S.put id (arrD n x.d)) hc (k' := k2) (by omega) (20 * x.k) n x.d (by omega) x.kn (Nat.le_refl _) (by omega) (fun i j i1 hij j1 => by rw [x.fa i i1, x.fa j (by omega)]; exact hpl _ _ i j i1 hij j1) (get_put_self hS0) (hK.put (good_arrD _ _))
 rw [put_put] at hcall
 simp [hcall, -Int.natCast_add, -Int.natCast_mul]
 generalize hL : loopN _ _ _ _ = L
 have so0 : ∀ j, SortedOn (lexC c) d1 (20 * j) (min (20 * j + 20) n) := fun j => by
  by_cases e : j < x.k
  ·exact (sorted_far (x.so j e) p1 (.inl (by omega))).mono (Nat.le_refl _) (by omega)
  ·by_cases e2 : j = x.k
   ·rw [e2]; exact s1.mono (Nat.le_refl _) (by omega)
   ·intro i1 i2 h1 h2 h3; omega
 obtain ⟨y, st', rfl, hT⟩ := loop_fam' hL (St2E S id n g (c := c) (d0 := d0)) (fun _ r => ∃ x : St2 c n d0, ¬ x.w < n ∧ r.1 = .exit 2 ∧ r.2.defs = [] ∧ r.2.par = .none ∧ r.2.S = S.put id (arrD n x.d)) (fun x => n - x.w)
  ⟨20, d1, .int .i64 (20 * x.k : Nat), .int .i64 (20 * x.k + 20 : Nat), Nat.le_refl _, by omega, x.pm.trans (p1.mono (by omega) (Nat.le_refl _)), so0, x.qb.perm (by omega) p1 (Nat.le_refl _) ⟨x.k, Nat.le_refl _, by omega⟩ (.inl (by omega))⟩ (by show n - 20 < N; omega) (by simp [St2E, -Int.natCast_add, -Int.natCast_mul]) (fun y => by
  clear hL
  obtain ⟨w, d, x7, x8, w20, wn, pm, so, qb⟩ := y
  by_cases hw : w < n
  ·have c1 : (w : Int) < n := by omega
   have w2 : IntKind.i64.wrap (2 * (w : Int)) = ((2 * w : Nat) : Int) := by rw [show (2 * (w : Int)) = ((2 * w : Nat) : Int) by omega]; exact Go.IntWalk.i64_in _ (by omega)
   have w3 : IntKind.i64.wrap ((w : Int) * 2) = ((2 * w : Nat) : Int) := by rw [show ((w : Int) * 2) = ((2 * w : Nat) : Int) by omega]; exact Go.IntWalk.i64_in _ (by omega)
   simp [St2E, c1, w2, -Int.natCast_add, -Int.natCast_mul]
   generalize hL2 : loopN _ _ _ _ = L2
   obtain ⟨y2, st2, rfl, hT2⟩ := loop_fam' hL2 (St3E S id n g w (c := c) (d0 := d0)) (fun _ r => ∃ x : St3 c n d0 w, ¬ (2 * w * x.k + 2 * w ≤ n) ∧ r = (.exit 4, { env := envOf 63 [(35, .bool false), (34, .int .i64 n), (33, .int .i64 (2 * w * x.k + 2 * w : Nat)), (0, .rsl id 2 0 n), (1, .int .i64 n), (2, .fn (.func g) [] []), (6, .int .i64 w), (7, .int .i64 (2 * w * x.k : Nat)), (8, .int .i64 (2 * w * x.k + 2 * w : Nat))], defs := [], par := .none, S := S.put id (arrD n x.d) })) (fun x => n - x.k)
    ⟨0, d, by omega, pm, fun _ h => by omega, fun j _ => so j, by simpa using qb, qb.two⟩ (by show n - 0 < N; omega) (by simp [St3E]) (fun x => by
    clear hL2
    by_cases hb : 2 * w * x.k + 2 * w ≤ n
    ·have c2 : ((2 * w * x.k + 2 * w : Nat) : Int) ≤ n := by omega
     have v1 : IntKind.i64.wrap (((2 * w * x.k : Nat) : Int) + w) = ((2 * w * x.k + w : Nat) : Int) := by rw [← Int.natCast_add]; exact Go.IntWalk.i64_in _ (by omega)
     have v2 : IntKind.i64.wrap (((2 * w * x.k + 2 * w : Nat) : Int) + ((2 * w : Nat) : Int)) = ((2 * w * x.k + 2 * w + 2 * w : Nat) : Int) := by rw [← Int.natCast_add]; exact Go.IntWalk.i64_in _ (by omega)
     obtain ⟨d', p, s, hcall⟩ := symP hc (by omega) (n := n) (id := id) (2 * w) (2 * w * x.k) (2 * w * x.k + w) (2 * w * x.k + 2 * w) x.d (S.put id (arrD n x.d)) (k2 + 1) (by omega) (by omega) (by omega) hb (by omega)
      (by have := x.so2 (2 * x.k) (Nat.le_refl _); rw [sq1] at this; exact this.mono (Nat.le_refl _) (by omega)) (by have := x.so2 (2 * x.k + 1) (by omega); rw [sq2] at this; exact this.mono (Nat.le_refl _) (by omega)) (st3_pl w20 x (by omega) hb) (get_put_self hS0) (hK.put (good_arrD _ _))
     rw [put_put] at hcall
     simp [St3E, c2, v1, v2, w2, hcall, -Int.natCast_add, -Int.natCast_mul]
     obtain ⟨m1, m2, m3, m4, m5⟩ := st3_merge w20 x (b := 2 * w * x.k + 2 * w) (by omega) (by omega) hb p s
     have hs : 2 * w * (x.k + 1) = 2 * w * x.k + 2 * w := Nat.mul_succ _ _
     refine ⟨⟨x.k + 1, d', by omega, m1, fun j hj => ?_, fun j hj => ?_, m4 _ (by omega) (by omega), m5⟩, ?_, ?_⟩
     ·by_cases e : j = x.k
      ·rw [e]; exact s
      ·exact m2 j (by omega)
     ·refine m3 j ?_
      have := Nat.mul_le_mul_left w hj
      rw [sq1] at this
      omega
     ·show n - (x.k + 1) < n - x.k
      have := Nat.mul_le_mul_right x.k (show 1 ≤ 2 * w by omega)
      omega
     ·simp [hs]
    ·have c2 : ¬ ((2 * w * x.k + 2 * w : Nat) : Int) ≤ n := by omega
     simp [St3E, c2, -Int.natCast_add, -Int.natCast_mul]
     exact ⟨x, by omega, by simp⟩)
   clear hL2
   obtain ⟨x, hx2, he⟩ := hT2
   obtain ⟨rfl, rfl⟩ := Prod.mk.inj he
   clear he
   have v1 : IntKind.i64.wrap (((2 * w * x.k : Nat) : Int) + w) = ((2 * w * x.k + w : Nat) : Int) := by rw [← Int.natCast_add]; exact Go.IntWalk.i64_in _ (by have := x.kn; omega)
   have hxk := x.kn
   have f1 : 0 < w := by omega
   simp [v1, -Int.natCast_add, -Int.natCast_mul]
   rcases Nat.lt_or_ge (2 * w * x.k + w) n with hm | hm
   ·obtain ⟨d', p, s, hcall⟩ := symP hc f0 (n := n) (id := id) n (2 * w * x.k) (2 * w * x.k + w) n x.d (S.put id (arrD n x.d)) (k2 + 1) (Nat.sub_le _ _) (Nat.lt_add_of_pos_right f1) hm (Nat.le_refl _) f2
     (by have := x.so2 (2 * x.k) (Nat.le_refl _); rw [sq1] at this; exact this.mono (Nat.le_refl _) (by omega)) (by have := x.so2 (2 * x.k + 1) (by omega); rw [sq2] at this; exact this.mono (Nat.le_refl _) (by omega)) (st3_pl w20 x (by omega) (Nat.le_refl _)) (get_put_self hS0) (hK.put (good_arrD _ _))
    rw [put_put] at hcall
    simp [hm, w3, hcall, -Int.natCast_add, -Int.natCast_mul]
    obtain ⟨m1, m2, m3, m4, m5⟩ := st3_merge w20 x (b := n) (by omega) (by omega) (Nat.le_refl _) p s
    refine ⟨⟨2 * w, d', .int .i64 (2 * w * x.k : Nat), .int .i64 (2 * w * x.k + 2 * w : Nat), by omega, by omega, m1, fun j => ?_, m5⟩, ?_, ?_⟩
    rotate_left 1
    ·show n - 2 * w < n - w; omega
    ·simp [St2E, -Int.natCast_add, -Int.natCast_mul]
    ·by_cases e : j < x.k
     ·exact (m2 j e).mono (Nat.le_refl _) (by omega)
     ·by_cases e2 : j = x.k
      ·rw [e2]; exact s.mono (Nat.le_refl _) (by omega)
      ·intro i1 i2 h1 h2 h3
       have := Nat.mul_le_mul_left (2 * w) (show x.k + 1 ≤ j by omega)
       rw [Nat.mul_succ] at this
       omega
   ·have c3 : ¬ 2 * w * x.k + w < n := by omega
    simp [c3, w3, -Int.natCast_add, -Int.natCast_mul]
    refine ⟨⟨2 * w, x.d, .int .i64 (2 * w * x.k : Nat), .int .i64 (2 * w * x.k + 2 * w : Nat), by omega, by omega, x.pm, fun j => ?_, x.qb2⟩, ?_, ?_⟩
    rotate_left 1
    ·show n - 2 * w < n - w; omega
    ·simp [St2E, -Int.natCast_add, -Int.natCast_mul]
    ·by_cases e : j < x.k
     ·exact (x.so1 j e).mono (Nat.le_refl _) (by omega)
     ·by_cases e2 : j = x.k
      ·rw [e2]
       have := x.so2 (2 * x.k) (Nat.le_refl _)
       rw [sq1] at this
       exact this.mono (Nat.le_refl _) (by omega)
      ·intro i1 i2 h1 h2 h3
       have := Nat.mul_le_mul_left (2 * w) (show x.k + 1 ≤ j by omega)
       rw [Nat.mul_succ] at this
       omega
  ·have c1 : ¬ (w : Int) < n := by omega
   simp [St2E, c1, -Int.natCast_add, -Int.natCast_mul]
   exact ⟨⟨w, d, x7, x8, w20, wn, pm, so, qb⟩, by show n ≤ w; omega, rfl⟩)
 clear hL
 obtain ⟨z, hz, t1, t2, t3, t4⟩ := hT
 obtain ⟨env, defs, par, S2⟩ := st'
 simp only at t1 t2 t3 t4
 subst t1 t2 t3 t4
 have hs := z.so 0
 refine ⟨z.d, z.pm, ?_, by simp⟩
 rw [Nat.mul_zero, Nat.zero_add, Nat.min_eq_right (by omega)] at hs
 exact hs
end Go.Ab.Seat
namespace Go.Ab.Seat
open Go.Proofs Srt
set_option maxRecDepth 100000
set_option maxHeartbeats 4000000
variable {H : Handler} {N : Nat} {S : Sto}
structure VlI (Inv : Nat → Sto → Prop) (m : Nat) where
 k : Nat
 S1 : Sto
 hk : k ≤ m
 hI : Inv k S1
def VlE (Inv : Nat → Sto → Prop) (m : Nat) (y : Nat) (v : AV) (i : VlI Inv m) : St := { env := envOf 16 [(0, .yld y), (5, v), (6, .int .i64 m), (7, .int .i64 i.k)], defs := [], par := .none, S := i.S1 }
theorem valsP_run {n y c : Nat} {o : Option (List PartV)} (Inv : Nat → Sto → Prop) (hc : S.get c = some (.cells [sv false 2 partRow o])) (hm : (ol o).length < 2 ^ 30) (hN : (ol o).length < N) (h0 : Inv 0 S)
  (hy : ∀ k p S1, Inv k S1 → (ol o)[k]? = some p → ∃ S2, (handler Try.prog ppol n).call (.yield y) [.agg (partRow p)] S1 = some (.ret (.bool true), S2) ∧ Inv (k + 1) S2) :
  ∃ S', runFn Try.prog (handler Try.prog ppol n) N ppol 90 .none [.yld y, .ptr c 0] S = some (.ret .undef, .none, S') ∧ Inv (ol o).length S' := by
 rw [runFn_eq Try.func90 (by rfl)]
 simp [Try.f90, hc]
 generalize hL : loopN _ _ _ _ = L
 obtain ⟨x, st', rfl, hT⟩ := loop_fam' hL (VlE Inv (ol o).length y (sv false 2 partRow o)) (fun _ r => r.1 = .exit 0 ∧ r.2.defs = [] ∧ r.2.par = .none ∧ Inv (ol o).length r.2.S) (fun i => (ol o).length - i.k) ⟨0, S, by omega, h0⟩ (by show _ - 0 < N; omega) (by simp [VlE]) (fun i => by
  obtain ⟨k, S1, hk, hI1⟩ := i
  clear hL
  by_cases hkl : k < (ol o).length
  ·obtain ⟨p, hp1⟩ : ∃ p, (ol o)[k]? = some p := ⟨_, List.getElem?_eq_getElem hkl⟩
   have g7 : IntKind.i64.wrap ((k : Int) + 1) = (k : Int) + 1 := wrap_succ hkl (by omega)
   obtain ⟨S2, hy1, hy2⟩ := hy k p S1 hI1 hp1
   have hix := index_sv (own := false) (g := partRow) (k := .i64) Try.underlying22 tycells45 hp1
   simp [VlE, hkl, hix, hy1, g7, writeCells]
   refine ⟨⟨k + 1, S2, hkl, hy2⟩, ?_, ?_⟩
   ·show _ - (k + 1) < _ - k; omega
   ·simp
  ·have : k = (ol o).length := by omega
   subst this
   simp [VlE, hI1])
 obtain ⟨rfl, t1, t2, t3⟩ := hT
 simp only at t1 t2 t3
 refine ⟨st'.S, ?_, t3⟩
 simp [t1, t2]
end Go.Ab.Seat
namespace Go.Ab.Seat
open Go.Proofs Srt
set_option maxRecDepth 100000
set_option maxHeartbeats 4000000
variable {H : Handler} {N : Nat} {S : Sto}
theorem app_heapP {S1 : Sto} {lo : Nat} {acc : List PartV} {v x : AV} {p : PartV} (hr : rowsIn S1 2 x = some [partRow p]) (h : SlV S1 2 partRow lo (optL acc) v) (hl : acc.length < 2 ^ 29) (hlo : lo ≤ S1.next) :
  ∃ v' S2 l, (∀ env defs par, appendS Try.prog 2 22 22 v x { env := env, defs := defs, par := par, S := S1 } = some (.val v' { env := env, defs := defs, par := par, S := S2 })) ∧ SlV S2 2 partRow lo (optL (acc ++ [p])) v' ∧ Grew l S1 S2 ∧ ∀ a ∈ l, lo ≤ a := by
 have hgo : goodO (.arr 2 ((acc ++ [p]).map partRow)) = true := by
  rw [good_arr]; exact sameR_map goodPart _
 have hne : optL (acc ++ [p]) = some (acc ++ [p]) := by simp [optL]
 rw [hne]
 cases acc with
 | nil =>
  cases h
  have hb := not_big45 1 (by omega)
  refine ⟨.rsl S1.next 2 0 1, S1.new (.arr 2 ([p].map partRow)), [], ?_, ?_, Grew.new _ _ _ hgo, by simp⟩
  ·intro env defs par
   unfold appendS
   simp [moreA, hr, appHeap, hb]
  ·exact .arr (xs := [p]) (get_new_self _ _) hlo (by simp [next_new])
 | cons q acc =>
  rw [show optL (q :: acc) = some (q :: acc) from rfl] at h
  cases h with
  | arr h hlo' hid =>
   rename_i id
   have hb := not_big45 ((q :: acc).length + 1) (by simp at hl ⊢; omega)
   refine ⟨.rsl S1.next 2 0 (q :: acc ++ [p]).length, (S1.drop id).new (.arr 2 ((q :: acc ++ [p]).map partRow)), [id], ?_, ?_, (Grew.drop _ (.inl (by simp))).trans (Grew.new _ _ _ hgo), by simpa using hlo'⟩
   ·intro env defs par
    simp only [List.map_cons, List.length_cons] at h hb
    unfold appendS
    simp [moreA, hr, appHeap, h, hb]
    intro hh; omega
   ·exact .arr (get_new_self _ _) (by simpa using hlo) (by simp [next_new])
structure ApI (S0 : Sto) (b y : Nat) (r : ALoop) (xs : List PartV) (k : Nat) (S' : Sto) : Prop where
 g : ∃ x, Grew x S0 S' ∧ ∀ a ∈ x, a = b ∨ y ≤ a
 w : ∃ v, S'.get b = some (.cells [v]) ∧ SlV S' 2 partRow (y + 1) (optL (xs.take k)) v
 yy : S'.get y = some (.loop r)
theorem slv_facts {X : Type} {S : Sto} {g : X → List AV} {lo : Nat} {o : Option (List X)} {v : AV} (h : SlV S 2 g lo o v) : v.strip0 = v ∧ okTop v = true ∧ v.cells = [v] ∧ v.clr = v ∧ v.noLp = v ∧ v.strip = v ∧ sameL [v] [v] = true ∧ isAggV v = false := by
 cases h <;> simp [isAggV]
theorem apseqP_run {n c : Nat} {o : Option (List PartV)} (hc : S.get c = some (.cells [sv false 2 partRow o])) (hcl : c < S.next) (hm : (ol o).length < 2 ^ 29) (hN : (ol o).length < n) :
  ∃ v S', runFn Try.prog (handler Try.prog ppol (n + 1)) N ppol 100 .none [.nilsl, .fn (.func 90) [] [.ptr c 0]] S = some (.ret v, .none, S') ∧ Grew [] S S' ∧ SlV S' 2 partRow S.next (optL (ol o)) v := by
 rw [runFn_eq Try.func100 (by rfl)]
 simp [Try.f100]
 generalize hr : loopOf _ _ _ _ _ _ _ = r
 have hra := congrArg ALoop.assign hr
 have hrb := congrArg ALoop.body hr
 have hre := congrArg ALoop.env hr
 have hrf := congrArg ALoop.fn hr
 have hrp := congrArg ALoop.params hr
 have hrs := congrArg ALoop.state hr
 have hrn := congrArg ALoop.pending hr
 simp [loopOf] at hra hrb hre hrf hrp hrs hrn
 clear hr
 obtain ⟨b, hb⟩ : ∃ b, S.next = b := ⟨_, rfl⟩
 rw [hb] at hre
 obtain ⟨S0, hS0⟩ : ∃ S0, (((S.new (.cells [.nilsl])).new .deferred).new (.loop r)) = S0 := ⟨_, rfl⟩
 have hg0 : Grew [] S S0 := by rw [← hS0]; exact ((Grew.new _ _ _ (by simp)).trans (Grew.new _ _ _ rfl)).trans (Grew.new _ _ _ rfl)
 have hn0 : S0.next = b + 3 := by rw [← hS0, ← hb]; rfl
 have hb0 : S0.get b = some (.cells [.nilsl]) := by rw [← hS0, ← hb, get_new_ne (by simp only [next_new]; omega), get_new_ne (by simp only [next_new]; omega), get_new_self]
 have hd0 : S0.get (b + 1) = some .deferred := by rw [← hS0, ← hb]; simp
 have hy0 : S0.get (b + 2) = some (.loop r) := by rw [← hS0, ← hb]; simp
 have hc0 : S0.get c = some (.cells [sv false 2 partRow o]) := (hg0.get c hcl (by simp)).trans hc
 have hrr : ({ state := .ready, pending := none, fn := r.fn, env := r.env, params := r.params, assign := r.assign, body := r.body, defers := r.defers } : ALoop) = r := by
  obtain ⟨x1, x2, x3, x4, x5, x6, x7, x8⟩ := r
  simp only at hrs hrn
  subst hrs hrn
  rfl
 obtain ⟨S7, e4, hI7⟩ := valsP_run (n := n) (N := n) (S := S0) (y := b + 2) (ApI S0 b (b + 2) r (ol o)) hc0 (by omega) hN
  ⟨⟨[], Grew.refl _ _, fun a ha => by cases ha⟩, ⟨.nilsl, hb0, by rw [List.take_zero]; exact .nil⟩, hy0⟩
  (fun k p S1 hI hp => by
   obtain ⟨⟨x, hg, hx⟩, ⟨v, hw, hv⟩, hy⟩ := hI
   have hkl := (List.getElem?_eq_some_iff.1 hp).1
   obtain ⟨Sb, hSb⟩ : ∃ Sb, S1.put (b + 2) (.loop { r with state := .busy }) = Sb := ⟨_, rfl⟩
   have gb : Grew [b + 2] S1 Sb := by rw [← hSb]; exact Grew.put _ _ (.inl (by simp)) rfl
   have hwb : Sb.get b = some (.cells [v]) := by rw [← hSb, get_put_ne (by omega)]; exact hw
   have hyb : Sb.get (b + 2) = some (.loop { r with state := .busy }) := by rw [← hSb]; exact get_put_self hy
   have hvb : SlV Sb 2 partRow (b + 3) (optL ((ol o).take k)) v := hv.mono gb (fun a ha => by simp at ha; omega)
   have hnb : b + 3 ≤ Sb.next := by have := hg.next; have := gb.next; omega
   obtain ⟨Sc, hSc⟩ : ∃ Sc, Sb.new (.arr 2 [partRow p]) = Sc := ⟨_, rfl⟩
   have gc : Grew [] Sb Sc := by rw [← hSc]; exact Grew.new _ _ _ (by rw [good_arr]; exact sameR_map goodPart [p])
   have hvc : SlV Sc 2 partRow (b + 3) (optL ((ol o).take k)) v := hvb.mono gc (by simp)
   have hrc : rowsIn Sc 2 (.rsl Sb.next 2 0 1) = some [partRow p] := by rw [← hSc]; simp [rowsIn]
   obtain ⟨v', S2, x2, happ, hv2, hg2', hx2⟩ := app_heapP hrc hvc (by have := List.length_take_le k (ol o); omega) (by have := gc.next; omega)
   have hg2 : Grew x2 Sb S2 := (gc.mono' (by simp)).trans hg2'
   obtain ⟨f1, f2, f3, f4, f5, f6, f7, f8⟩ := slv_facts hvb
   obtain ⟨h1, h2, h3, h4, h5, h6, h7, h8⟩ := slv_facts hv2
   have hb2 : S2.get b = some (.cells [v]) := (hg2.get b (by omega) (fun hm => by have := hx2 _ hm; omega)).trans hwb
   have hy2 : S2.get (b + 2) = some (.loop { r with state := .busy }) := (hg2.get (b + 2) (by omega) (fun hm => by have := hx2 _ hm; omega)).trans hyb
   have hn2 := hg2.next
   refine ⟨(S2.put b (.cells [v'])).put (b + 2) (.loop r), ?_, ?_⟩
   ·obtain ⟨n', rfl⟩ : ∃ n', n = n' + 1 := ⟨n - 1, by omega⟩
    rw [call_yield, yield_eq hy (by rw [← hrp]; rfl) (by rw [← hrf]; rfl)]
    rw [← hra, ← hre, ← hrf, ← hrp]
    simp [writeCells]
    rw [yBody_normal hy hrs.symm, hSb, ← hrb, ← hrf]
    have hps : Sb.put b (.cells [v]) = Sb := put_self hwb
    simp [hwb, takeCells_eq, f1, f3, f4, f5, f6, f8, hps, buildSliceA, fillRows, asArr, hSc, happ, hb2, h2, h3, h4, h5, h6, writeCells]
    rw [yFin_normal (r := { r with state := .busy }) (by rw [get_put_ne (by omega)]; exact hy2)]
    simp [hrr]
   ·have gp : Grew [b] S2 (S2.put b (.cells [v'])) := Grew.put _ _ (.inl (by simp)) (by rw [good_cells]; exact h7)
    have gq : Grew [b + 2] (S2.put b (.cells [v'])) ((S2.put b (.cells [v'])).put (b + 2) (.loop r)) := Grew.put _ _ (.inl (by simp)) rfl
    refine ⟨⟨x ++ [b + 2] ++ x2 ++ [b], (((hg.mono' ?_).trans (gb.mono' ?_)).trans (hg2.mono' ?_)).trans ((gp.mono' ?_).trans (gq.mono' ?_)), ?_⟩, ⟨v', ?_, ?_⟩, ?_⟩
    ·intro a ha; simp [ha]
    ·intro a ha; simp at ha; simp [ha]
    ·intro a ha; simp [ha]
    ·intro a ha; simp at ha; simp [ha]
    ·intro a ha; simp at ha; simp [ha]
    ·intro a ha
     simp only [List.mem_append, List.mem_singleton] at ha
     rcases ha with ((ha | ha) | ha) | ha
     ·exact hx a ha
     ·omega
     ·have := hx2 a ha; omega
     ·omega
    ·rw [get_put_ne (by omega)]; exact get_put_self hb2
    ·rw [take_snoc hp]
     exact (hv2.mono gp (fun a ha => by simp at ha; omega)).mono gq (fun a ha => by simp at ha; omega)
    ·exact get_put_self (o' := .loop { r with state := .busy }) (by rw [get_put_ne (by omega)]; exact hy2))
 obtain ⟨⟨x, hg, hx⟩, ⟨v, hw, hv⟩, hy⟩ := hI7
 rw [List.take_of_length_le (Nat.le_refl _)] at hv
 have hcall : (handler Try.prog ppol (n + 1)).call (.func 90) [.yld (b + 2), .ptr c 0] S0 = some (.ret .undef, S7) := by
  rw [call_func (by rfl), e4]; rfl
 have hrg := fun st defs => rgEnd_ret (st := st) (defs := defs) (v := .undef) hy hrs.symm hrn.symm
 have hn7 := hg.next
 obtain ⟨S8, hS8⟩ : ∃ S8, S7.drop (b + 2) = S8 := ⟨_, rfl⟩
 have g8 : Grew [b + 2] S7 S8 := by rw [← hS8]; exact Grew.drop _ (.inl (by simp))
 have hw8 : S8.get b = some (.cells [v]) := by rw [← hS8, get_drop_ne (by omega)]; exact hw
 have hd8 : S8.get (b + 1) = some .deferred := by rw [← hS8, get_drop_ne (by omega), hg.get (b + 1) (by omega) (fun hm => by have := hx _ hm; omega)]; exact hd0
 have g9 : Grew [b + 1] S8 (S8.drop (b + 1)) := Grew.drop _ (.inl (by simp))
 obtain ⟨f1, f2, f3, f4, f5, f6, f7, f8⟩ := slv_facts hv
 refine ⟨v, S8.drop (b + 1), ?_, ?_, ?_⟩
 ·rw [hb]
  simp [hS0, hcall, hrg, hS8, hw8, hd8, f1, f4, f5, f6, unwind_coll]
 ·refine ((hg0.behind hg (fun a ha => by have := hx a ha; omega)).behind g8 (by simp; omega)).behind g9 (by simp; omega)
 ·rw [hb]
  exact ((hv.mono g8 (fun a ha => by simp at ha; omega)).mono g9 (fun a ha => by simp at ha; omega)).lower (by omega)
end Go.Ab.Seat
namespace Go.Ab.Seat
open Go.Proofs Srt
set_option maxRecDepth 100000
set_option maxHeartbeats 4000000
variable {H : Handler} {N : Nat} {S : Sto}
theorem ins_nil {n g : Nat} (hN : 1 < n) : (handler Try.prog ppol (n + 1)).call (.func 104) [.nilsl, .int .i64 0, .int .i64 0, .fn (.func g) [] []] S = some (.ret .undef, S) := by
 rw [call_func (by rfl), runFn_eq Try.func104 (by rfl)]
 simp [Try.f104, show IntKind.i64.wrap 1 = 1 from Go.IntWalk.i64_in _ (by omega)]
 obtain ⟨n', rfl⟩ : ∃ n', n = n' + 1 := ⟨n - 1, by omega⟩
 rw [loop_step]
 simp
theorem stab_nil {n g : Nat} (hN : 3 < n) : (handler Try.prog ppol (n + 2)).call (.func 101) [.nilsl, .int .i64 0, .fn (.func g) [] []] S = some (.ret .undef, S) := by
 rw [call_func (by rfl), runFn_eq Try.func101 (by rfl)]
 simp [Try.f101]
 rw [loop_step]
 simp [ins_nil (n := n) (by omega)]
 rw [loop_step]
 simp
theorem map_tab {X Y : Type} (g : X → Y) (xs : List X) (f : Nat → X) (h : ∀ i, i < xs.length → xs[i]? = some (f i)) : xs.map g = tab xs.length fun i => g (f i) := by
 apply List.ext_getElem?
 intro i
 rw [List.getElem?_map]
 by_cases hi : i < xs.length
 ·rw [h i hi, tab_get _ hi]; rfl
 ·rw [List.getElem?_eq_none (by omega), List.getElem?_eq_none (by rw [tab_len]; omega)]; rfl
theorem sorP_call {n g K : Nat} {c : PartV → PartV → Int} (hc : CmpP g K c) {xs : List PartV} {v : AV} {lo : Nat} (hv : SlV S 2 partRow lo (optL xs) v) (hm : xs.length < 2 ^ 20) (hN : K + 3 * xs.length + 50 ≤ n) (hK : SOK S) :
  ∃ S' ys x, (handler Try.prog ppol n).call (.func 89) [v, .fn (.func g) [] []] S = some (.ret .undef, S') ∧ Sorted (fun x y => c x y < 0) xs ys ∧ SlV S' 2 partRow lo (optL ys) v ∧ Grew x S S' ∧ ∀ a ∈ x, lo ≤ a := by
 obtain ⟨n', rfl⟩ : ∃ n', n = n' + 4 := ⟨n - 4, by omega⟩
 cases xs with
 | nil =>
  cases hv
  refine ⟨S, [], [], ?_, Sorted.nil _, .nil, Grew.refl _ _, by simp⟩
  rw [call_func (by rfl), runFn_eq Try.func89 (by rfl)]
  simp [Try.f89, lenA, stab_nil (n := n' + 1) (S := S) (g := g) (by simp at hN; omega)]
 | cons p xs =>
  rw [show optL (p :: xs) = some (p :: xs) from rfl] at hv
  generalize hx : p :: xs = l at *
  cases hv with
  | arr h hlo hid =>
   rename_i id
   obtain ⟨f, hf⟩ : ∃ f : Nat → PartV, ∀ i, i < l.length → l[i]? = some (f i) := ⟨fun i => (l[i]?).getD p, fun i hi => by simp [hi]⟩
   have hS : S.get id = some (arrP l.length f) := by rw [h, map_tab partRow l f hf]; rfl
   obtain ⟨d, p1, s1, hrun⟩ := stabP_run (k' := n' + 2) (N := n' + 2) hc (by omega) f hm (by omega) hS hK
   have hys := Sorted.of hf p1 s1
   have hcall : (handler Try.prog ppol (n' + 3)).call (.func 101) [.rsl id 2 0 l.length, .int .i64 l.length, .fn (.func g) [] []] S = some (.ret .undef, S.put id (arrD l.length d)) := by rw [call_func (by rfl), hrun]; rfl
   refine ⟨S.put id (arrD l.length d), _, [id], ?_, hys, ?_, Grew.put _ _ (.inl (by simp)) (good_arrD _ _), by simpa using hlo⟩
   ·rw [call_func (by rfl), runFn_eq Try.func89 (by rfl)]
    simp [Try.f89, lenA, hcall]
   ·have hne : optL ((List.range l.length).map fun i => (d i).1) = some ((List.range l.length).map fun i => (d i).1) := by
     unfold optL
     rw [if_neg]
     rw [← hx]
     simp [List.range_succ]
    rw [hne]
    have := SlV.arr (S := S.put id (arrD l.length d)) (es := 2) (g := partRow) (lo := lo) (xs := (List.range l.length).map fun i => (d i).1) (id := id) ((get_put_self h).trans (by rw [List.map_map]; rfl)) hlo (by rw [next_put]; exact hid)
    simpa using this
theorem frz_slv {X : Type} {S : Sto} {g : X → List AV} {lo : Nat} {ys : List X} {v : AV} (h : SlV S 2 g lo (optL ys) v) : ∃ S' x, frzA true S v = (sv false 2 g (optL ys), S') ∧ Grew x S S' ∧ ∀ a ∈ x, lo ≤ a := by
 generalize ho : optL ys = o at h
 cases h with
 | nil => exact ⟨S, [], rfl, Grew.refl _ _, by simp⟩
 | arr h hlo hid =>
  rename_i xs id
  have := frzA_arr h
  rw [List.length_map] at this
  exact ⟨S.drop id, [id], this, Grew.drop _ (.inl (by simp)), by simpa using hlo⟩
theorem frzV_of {fz : Bool} {S : Sto} {v : AV} (h : isAggV v = false) : frzV fz S v = frzA fz S v := by
 cases v <;> first | (simp [isAggV] at h; done) | (cases fz <;> rfl)
theorem ordP_call {n g K : Nat} {c : PartV → PartV → Int} (hc : CmpP g K c) (o : Option (List PartV)) (hm : (ol o).length < 2 ^ 20) (hN : K + 3 * (ol o).length + 60 ≤ n) (hK : SOK S) :
  ∃ S' ys, (handler Try.prog ppol n).call (.func 43) [sv false 2 partRow o, .fn (.func g) [] []] S = some (.ret (sv false 2 partRow (optL ys)), S') ∧ Grew [] S S' ∧ Sorted (fun x y => c x y < 0) (ol o) ys := by
 obtain ⟨n', rfl⟩ : ∃ n', n = n' + 8 := ⟨n - 8, by omega⟩
 obtain ⟨S1, hS1⟩ : ∃ S1, S.new (.cells [sv false 2 partRow o]) = S1 := ⟨_, rfl⟩
 have g1 : Grew [] S S1 := by rw [← hS1]; exact Grew.new _ _ _ (by rw [good_cells]; simp [same_sv false 2 goodPart])
 have hn1 : S1.next = S.next + 1 := by rw [← hS1]; rfl
 have c1 : (handler Try.prog ppol (n' + 7)).call (.func 69) [sv false 2 partRow o] S = some (.ret (.fn (.func 90) [] [.ptr S.next 0]), S1) := by
  rw [call_func (by rfl), runFn_eq Try.func69 (by rfl)]
  simp [Try.f69, hS1]
 obtain ⟨v, S2, e2, g2, hv2⟩ := apseqP_run (n := n' + 3) (N := n' + 4) (S := S1) (c := S.next) (o := o) (by rw [← hS1]; exact get_new_self _ _) (by omega) (by omega) (by omega)
 have c2 : (handler Try.prog ppol (n' + 5)).call (.func 100) [.nilsl, .fn (.func 90) [] [.ptr S.next 0]] S1 = some (.ret v, S2) := by rw [call_func (by rfl), e2]; rfl
 obtain ⟨f1, f2, f3, f4, f5, f6, f7, f8⟩ := slv_facts hv2
 have c3 : (handler Try.prog ppol (n' + 6)).call (.func 88) [.fn (.func 90) [] [.ptr S.next 0]] S1 = some (.ret v, S2) := by
  rw [call_func (by rfl), runFn_eq Try.func88 (by rfl)]
  simp [Try.f88, c2, f4, f5]
 obtain ⟨S3, ys, x, c4, hs, hv3, g3, hx⟩ := sorP_call (n := n' + 6) hc hv2 hm (by omega) (g2.sok (g1.sok hK))
 have c5 : (handler Try.prog ppol (n' + 7)).call (.func 68) [.fn (.func 90) [] [.ptr S.next 0], .fn (.func g) [] []] S1 = some (.ret v, S3) := by
  rw [call_func (by rfl), runFn_eq Try.func68 (by rfl)]
  simp [Try.f68, c3, c4, f4, f5, f6]
 obtain ⟨S4, x4, e4, g4, hx4⟩ := frz_slv hv3
 refine ⟨S4, ys, ?_, ((g1.trans g2).behind g3 (fun a ha => by have := hx a ha; omega)).behind g4 (fun a ha => by have := hx4 a ha; omega), hs⟩
 rw [call_func (by rfl), runFn_eq Try.func43 (by rfl)]
 simp [Try.f43, c1, c5, f4, f5, f6, frzV_of f8, e4]
end Go.Ab.Seat
