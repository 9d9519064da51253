/- Joining image files in the program answers as joining them in the document does, whatever the two files (pomanderlaw21.ImageJoins). No conditions. -/
import Derived.Test.YtooahmehpnbfgaaP10
namespace Go.Ab.Seat.Sy
open Go.Proofs Srt Go.Ab.Seat
set_option maxRecDepth 100000
set_option maxHeartbeats 20000000
variable {H : Handler} {N : Nat} {S : Sto}
structure Se (c : SymV → SymV → Int) (d : DP) (a m b s0 r0 : Nat) where
 s : Nat
 r : Nat
 bs : Bs (lexC c) d a m b s0 r0 s r
theorem pl_rot {d : DP} {a s m e b : Nat} (h : PL d a m b) (h1 : a ≤ s) (h2 : s ≤ m) (h3 : m ≤ e) (h4 : e ≤ b) : PL (rot d m (m - s) (e - m)) a s (s + (e - m)) ∧ PL (rot d m (m - s) (e - m)) (s + (e - m)) e b := by
 have g1 : ∀ x, x < s → rot d m (m - s) (e - m) x = d x := fun x hx => by unfold rot; rw [if_neg (by omega), if_neg (by omega)]
 have g2 : ∀ x, s ≤ x → x < s + (e - m) → rot d m (m - s) (e - m) x = d (x + (m - s)) := fun x h h' => by unfold rot; rw [if_pos (by omega)]
 have g3 : ∀ x, s + (e - m) ≤ x → x < e → rot d m (m - s) (e - m) x = d (x - (e - m)) := fun x h h' => by unfold rot; rw [if_neg (by omega), if_pos (by omega)]
 have g4 : ∀ x, e ≤ x → rot d m (m - s) (e - m) x = d x := fun x hx => by unfold rot; rw [if_neg (by omega), if_neg (by omega)]
 refine ⟨fun i j i1 i2 j1 j2 => ?_, fun i j i1 i2 j1 j2 => ?_⟩
 ·rw [g1 i i2, g2 j j1 j2]; exact h _ _ (by omega) (by omega) (by omega) (by omega)
 ·rw [g3 i i1 i2, g4 j j1]; exact h _ _ (by omega) (by omega) (by omega) (by omega)
theorem PL.congr {d d' : DP} {a m b : Nat} (h : PL d a m b) (he : ∀ x, a ≤ x → x < b → d' x = d x) : PL d' a m b := fun i j i1 i2 j1 j2 => by
 rw [he i i1 (by omega), he j (by omega) j2]; exact h i j i1 i2 j1 j2
def SymC (n id g : Nat) (c : SymV → SymV → Int) (k a m b : Nat) (d : DP) (S : Sto) (d' : DP) : Prop :=
 Perm a b d d' ∧ SortedOn (lexC c) d' a b ∧ (handler Try.prog ppol k).call (.func 107) [.rsl id 2 0 n, .int .i64 a, .int .i64 m, .int .i64 b, .fn (.func g) [] []] S = some (.ret .undef, S.put id (arrD n d'))
theorem symP_main1 {n id g K k' : Nat} {c : SymV → SymV → Int} (hc : CmpP g K c) (hk : K ≤ k') (a m b : Nat) (d : DP) (hn : n < 2 ^ 28) (ham : a + 1 < m) (hmb : m + 1 < b) (hb : b ≤ n) (hN : n + n + 4 < N) (hk2 : n + n + 4 < k')
  (h1 : SortedOn (lexC c) d a m) (h2 : SortedOn (lexC c) d m b) (hp : PL d a m b) (hS : S.get id = some (arrD n d)) (hK : SOK S)
  (mid : Nat) (hmid : (a + b) / 2 = mid) (hm : mid < m)
  (ih : ∀ a' m' b' (d1 : DP) (S1 : Sto), b' - a' < b - a → a' < m' → m' < b' → b' ≤ n → SortedOn (lexC c) d1 a' m' → SortedOn (lexC c) d1 m' b' → PL d1 a' m' b' → S1.get id = some (arrD n d1) → SOK S1 → ∃ d', SymC n id g c k' a' m' b' d1 S1 d') :
  ∃ d' : DP, Perm a b d d' ∧ SortedOn (lexC c) d' a b ∧ runFn Try.prog (handler Try.prog ppol k') N ppol 107 .none [.rsl id 2 0 n, .int .i64 a, .int .i64 m, .int .i64 b, .fn (.func g) [] []] S = some (.ret .undef, .none, S.put id (arrD n d')) := by
 have o := lex_ord hc.wo
 have hr : Rng a m b (mid + m - b) mid := ⟨by omega, by omega, .inl ⟨by omega, by omega, by omega⟩⟩
 have wnb : IntKind.i64.wrap (((mid + m : Nat) : Int) - b) = ((mid + m - b : Nat) : Int) := by rw [show (((mid + m : Nat) : Int) - b) = ((mid + m - b : Nat) : Int) by omega]; exact Go.IntWalk.i64_in _ (by omega)
 rw [runFn_eq Try.func107 (by rfl)]
 have w0 : IntKind.i64.wrap ((m : Int) - a) = ((m - a : Nat) : Int) := by rw [show ((m : Int) - a) = ((m - a : Nat) : Int) by omega]; exact Go.IntWalk.i64_in _ (by omega)
 have w1 : IntKind.i64.wrap ((b : Int) - m) = ((b - m : Nat) : Int) := by rw [show ((b : Int) - m) = ((b - m : Nat) : Int) by omega]; exact Go.IntWalk.i64_in _ (by omega)
 have c0 : (((m - a : Nat) : Int) == 1) = false := by rw [beq_eq_false_iff_ne]; omega
 have c1 : (((b - m : Nat) : Int) == 1) = false := by rw [beq_eq_false_iff_ne]; omega
 have wab : IntKind.i64.wrap ((a : Int) + b) = ((a + b : Nat) : Int) := by rw [← Int.natCast_add]; exact Go.IntWalk.i64_in _ (by omega)
 have v1 := cv_iu (a + b) (by omega)
 have v2 := shr_u (a + b)
 rw [hmid] at v2
 have v3 := cv_ui mid (by omega)
 have wn : IntKind.i64.wrap ((mid : Int) + m) = ((mid + m : Nat) : Int) := by rw [← Int.natCast_add]; exact Go.IntWalk.i64_in _ (by omega)
 have wp : IntKind.i64.wrap (((mid + m : Nat) : Int) - 1) = ((mid + m - 1 : Nat) : Int) := by rw [show (((mid + m : Nat) : Int) - 1) = ((mid + m - 1 : Nat) : Int) by omega]; exact Go.IntWalk.i64_in _ (by omega)
 have hS1 : (S.put id (arrD n d)).get id = some (arrD n d) := get_put_self hS
 have hK1 : SOK (S.put id (arrD n d)) := hK.put (good_arrD _ _)
 have cm : (mid : Int) < m := by omega
 have hrl := hr.le
 simp [Try.f107, w0, w1, c0, c1, wab, v1, v2, v3, wn, wnb, wp, cm, -Int.natCast_add]
 generalize hL : loopN _ _ _ _ = L
 obtain ⟨x, st', rfl, hT⟩ := loop_fam' hL (fun x : Se c d a m b (mid + m - b) mid => SmE S id n a m b g d [(18, .int .i64 mid), (19, .int .i64 (mid + m : Nat)), (20, .int .i64 x.s), (21, .int .i64 x.r), (22, .int .i64 (mid + m - 1 : Nat))])
  (fun _ r => ∃ e, Bs (lexC c) d a m b (mid + m - b) mid e e ∧ r = (.exit 8, SmE S id n a m b g d [(151, .bool false), (150, .int .i64 e), (149, .int .i64 e), (18, .int .i64 mid), (19, .int .i64 (mid + m : Nat)), (20, .int .i64 e), (21, .int .i64 e), (22, .int .i64 (mid + m - 1 : Nat))])) (fun x => x.r - x.s)
  ⟨(mid + m - b), mid, Bs.start (by omega)⟩ (by show mid - ((mid + m - b)) < N; omega) (by simp [SmE, put_self hS, -Int.natCast_add]) (fun x => by
  obtain ⟨s, r, bs⟩ := x
  clear hL
  obtain ⟨S1, hS1e⟩ : ∃ S1, S.put id (arrD n d) = S1 := ⟨_, rfl⟩
  rw [hS1e] at hS1 hK1
  have b0 := bs.h0
  have b1 := bs.h1
  have b2 := bs.h2
  by_cases hij : s < r
  ·have cs : (s : Int) < r := by omega
   obtain ⟨h, hh⟩ : ∃ h, (s + r) / 2 = h := ⟨_, rfl⟩
   have wh : IntKind.i64.wrap ((s : Int) + r) = ((s + r : Nat) : Int) := by rw [← Int.natCast_add]; exact Go.IntWalk.i64_in _ (by omega)
   have u1 := cv_iu (s + r) (by omega)
   have u2 := shr_u (s + r)
   rw [hh] at u2
   have u3 := cv_ui h (by omega)
   have hat := hr.at (x := h) (by omega) (by omega)
   rw [hmid] at hat
   obtain ⟨q, hq⟩ : ∃ q, mid + m - 1 - h = q := ⟨_, rfl⟩
   rw [hq] at hat
   have wq : IntKind.i64.wrap (((mid + m - 1 : Nat) : Int) - h) = (q : Int) := by rw [show (((mid + m - 1 : Nat) : Int) - h) = ((q : Nat) : Int) by omega]; exact Go.IntWalk.i64_in _ (by omega)
   have ia := index_rsl (id := id) (k := .i64) (len := n) (i := q) Try.underlying23 tycells64 (by omega) (by omega)
   have ib := index_rsl (id := id) (k := .i64) (len := n) (i := h) Try.underlying23 tycells64 (by omega) (by omega)
   have la := getP hS1 (a := q) (by omega)
   have lb := getP hS1 (a := h) (by omega)
   have hcall := hc.run (d q).1 (d h).1 S1 k' hk
   have hpl := hp h q (by omega) (by omega) (by omega) (by omega)
   simp [SmE, hS1e, cs, wh, u1, u2, u3, -Int.natCast_add]
   rw [evDraw_go]
   ·by_cases hcm : c (d q).1 (d h).1 < 0
    ·have hlt : lexC c (d q) (d h) := .inl hcm
     simp [ia, ib, la, lb, hcall, hcm, wq, -Int.natCast_add]
     refine ⟨⟨s, h, bs.left o hr h1 h2 (by omega) (by omega) (by rw [hmid, hq]; exact hlt)⟩, ?_, ?_⟩
     ·show h - s < r - s; omega
     ·simp
    ·have w2 : IntKind.i64.wrap ((h : Int) + 1) = ((h + 1 : Nat) : Int) := wrap_succ (n := n + 1) (by omega) (by omega)
     have hlt : lexC c (d h) (d q) := lex_else hpl hcm
     simp [ia, ib, la, lb, hcall, hcm, w2, wq, -Int.natCast_add]
     refine ⟨⟨h + 1, r, bs.right o hr h1 h2 (by omega) (by omega) (by rw [hmid, hq]; exact hlt)⟩, ?_, ?_⟩
     ·show r - (h + 1) < r - s; omega
     ·simp
   ·kernel_rfl
  ·have cs : ¬ (s : Int) < r := by omega
   have e : s = r := by omega
   subst e
   simp [SmE, hS1e]
   exact ⟨s, bs, by simp⟩)
 clear hL
 obtain ⟨e, bs, he⟩ := hT
 obtain ⟨rfl, rfl⟩ := Prod.mk.inj he
 clear he
 have ct := bs.cut o hr h1 h2
 rw [hmid] at ct
 obtain ⟨en, hen⟩ : ∃ en, mid + m - e = en := ⟨_, rfl⟩
 rw [hen] at ct
 have q1 := ct.as
 have q2 := ct.sm
 have q3 := ct.me
 have q4 := ct.eb
 have hse : e + (en - m) = mid := by omega
 have wen : IntKind.i64.wrap (((mid + m : Nat) : Int) - e) = (en : Int) := by rw [show (((mid + m : Nat) : Int) - e) = (en : Int) by omega]; exact Go.IntWalk.i64_in _ (by omega)
 have p1 : Perm a b d (rot d m (m - e) (en - m)) := Perm.rot d (by omega) (by omega) (by omega)
 obtain ⟨z1, z2, z3, z4, z5⟩ := cut_rot h1 h2 ct
 obtain ⟨y1, y2⟩ := pl_rot hp q1 q2 q3 q4
 have hA : (e < m ∧ m < en ∧ (handler Try.prog ppol k').call (.func 109) [.rsl id 2 0 n, .int .i64 e, .int .i64 m, .int .i64 en, .fn (.func g) [] []] (S.put id (arrD n d)) = some (.ret .undef, S.put id (arrD n (rot d m (m - e) (en - m))))) ∨ (e < m ∧ ¬ m < en ∧ rot d m (m - e) (en - m) = d) ∨ (¬ e < m ∧ rot d m (m - e) (en - m) = d) := by
  by_cases a1 : e < m
  ·by_cases a2 : m < en
   ·have := rotP_call (k := k') d e m en g (by omega) a1 a2 (by omega) (by omega) hS1
    rw [put_put] at this
    exact .inl ⟨a1, a2, this⟩
   ·exact .inr (.inl ⟨a1, a2, by rw [show en - m = 0 by omega]; exact rot_zr _ _ _⟩)
  ·exact .inr (.inr ⟨a1, by rw [show m - e = 0 by omega]; exact rot_zl _ _ _⟩)
 rw [hse] at z2 z3 z5 y1 y2
 generalize rot d m (m - e) (en - m) = d1 at p1 z1 z2 z3 z4 z5 y1 y2 hA
 have hS2 : (S.put id (arrD n d1)).get id = some (arrD n d1) := get_put_self hS
 have hK2 : SOK (S.put id (arrD n d1)) := hK.put (good_arrD _ _)
 obtain ⟨d2, pB, sB, hB⟩ : ∃ d2, Perm a mid d1 d2 ∧ SortedOn (lexC c) d2 a mid ∧ ((a < e ∧ e < mid ∧ (handler Try.prog ppol k').call (.func 107) [.rsl id 2 0 n, .int .i64 a, .int .i64 e, .int .i64 mid, .fn (.func g) [] []] (S.put id (arrD n d1)) = some (.ret .undef, S.put id (arrD n d2))) ∨ (a < e ∧ ¬ e < mid ∧ d2 = d1) ∨ (¬ a < e ∧ d2 = d1)) := by
  by_cases a1 : a < e
  ·by_cases a2 : e < mid
   ·obtain ⟨d', k1, k2, k3⟩ := ih a e mid d1 (S.put id (arrD n d1)) (by omega) a1 a2 (by omega) z1 z2 y1 hS2 hK2
    rw [put_put] at k3
    exact ⟨d', k1, k2, .inl ⟨a1, a2, k3⟩⟩
   ·exact ⟨d1, Perm.refl _ _ _, by rw [show mid = e by omega]; exact z1, .inr (.inl ⟨a1, a2, rfl⟩)⟩
  ·exact ⟨d1, Perm.refl _ _ _, by rw [show a = e by omega]; exact z2, .inr (.inr ⟨a1, rfl⟩)⟩
 have hS3 : (S.put id (arrD n d2)).get id = some (arrD n d2) := get_put_self hS
 have hK3 : SOK (S.put id (arrD n d2)) := hK.put (good_arrD _ _)
 have z3' := sorted_far z3 pB (.inr (Nat.le_refl _))
 have z4' := sorted_far z4 pB (.inr (by omega))
 have y2' := y2.congr (d' := d2) (fun x x1 x2 => pB.out (by omega))
 obtain ⟨d3, pC, sC, hC⟩ : ∃ d3, Perm mid b d2 d3 ∧ SortedOn (lexC c) d3 mid b ∧ ((mid < en ∧ en < b ∧ (handler Try.prog ppol k').call (.func 107) [.rsl id 2 0 n, .int .i64 mid, .int .i64 en, .int .i64 b, .fn (.func g) [] []] (S.put id (arrD n d2)) = some (.ret .undef, S.put id (arrD n d3))) ∨ (mid < en ∧ ¬ en < b ∧ d3 = d2) ∨ (¬ mid < en ∧ d3 = d2)) := by
  by_cases a1 : mid < en
  ·by_cases a2 : en < b
   ·obtain ⟨d', k1, k2, k3⟩ := ih mid en b d2 (S.put id (arrD n d2)) (by omega) a1 a2 (by omega) z3' z4' y2' hS3 hK3
    rw [put_put] at k3
    exact ⟨d', k1, k2, .inl ⟨a1, a2, k3⟩⟩
   ·exact ⟨d2, Perm.refl _ _ _, by rw [show b = en by omega]; exact z3', .inr (.inl ⟨a1, a2, rfl⟩)⟩
  ·exact ⟨d2, Perm.refl _ _ _, by rw [show mid = en by omega]; exact z4', .inr (.inr ⟨a1, rfl⟩)⟩
 refine ⟨d3, (p1.trans (pB.mono (Nat.le_refl _) (by omega))).trans (pC.mono (by omega) (Nat.le_refl _)), halves pB sB pC sC z5, ?_⟩
 clear bs ct z1 z2 z3 z4 z5 y1 y2 z3' z4' y2' pB sB pC sC p1 ih h1 h2 hp
 rcases hA with ⟨a1, a2, ka⟩ | ⟨a1, a2, rfl⟩ | ⟨a1, rfl⟩
 all_goals
  first | simp [SmE, wen, a1, a2, ka, -Int.natCast_add] | simp [SmE, wen, a1, a2, -Int.natCast_add] | simp [SmE, wen, a1, -Int.natCast_add]
  rcases hB with ⟨b1, b2, kb⟩ | ⟨b1, b2, rfl⟩ | ⟨b1, rfl⟩
  all_goals
   first | simp [b1, b2, kb, -Int.natCast_add] | simp [b1, b2, -Int.natCast_add] | simp [b1, -Int.natCast_add]
   rcases hC with ⟨d1, d2, kc⟩ | ⟨d1, d2, rfl⟩ | ⟨d1, rfl⟩
   all_goals first | simp [d1, d2, kc, -Int.natCast_add] | simp [d1, d2, -Int.natCast_add] | simp [d1, -Int.natCast_add]
end Go.Ab.Seat.Sy
