/- Joining image files in the program answers as joining them in the document does, whatever the two files (pomanderlaw21.ImageJoins). No conditions. -/
import Derived.Test.YtooahmehpnbfgaaP04
import GoSem.Op.String
namespace Go.Ab.Srt
variable {α : Type}
def swp (f : Nat → α) (i j : Nat) : Nat → α := fun k => if k = i then f j else if k = j then f i else f k
def exch (f : Nat → α) (a b n : Nat) : Nat → α := fun x => if a ≤ x ∧ x < a + n then f (x - a + b) else if b ≤ x ∧ x < b + n then f (x - b + a) else f x
theorem exch_zero (f : Nat → α) (a b : Nat) : exch f a b 0 = f := by
 funext x
 unfold exch
 repeat' split
 all_goals first | rfl | omega
theorem exch_succ (f : Nat → α) (a b n : Nat) (h : a + n < b) : swp (exch f a b n) (a + n) (b + n) = exch f a b (n + 1) := by
 funext x
 unfold swp exch
 repeat' split
 all_goals first | rfl | omega | (congr 1; omega)
def rot (f : Nat → α) (m i j : Nat) : Nat → α := fun x => if m - i ≤ x ∧ x < m - i + j then f (x + i) else if m - i + j ≤ x ∧ x < m + j then f (x - j) else f x
theorem rot_same (f : Nat → α) (m i : Nat) (h : i ≤ m) : exch f (m - i) m i = rot f m i i := by
 funext x
 unfold exch rot
 repeat' split
 all_goals first | rfl | omega | (congr 1; omega)
theorem rot_left (f : Nat → α) (m i j : Nat) (h : i ≤ m) (hij : j < i) : rot (exch f (m - i) m j) m (i - j) j = rot f m i j := by
 funext x
 unfold rot exch
 repeat' split
 all_goals first | rfl | omega | (congr 1; omega)
theorem rot_right (f : Nat → α) (m i j : Nat) (h : i ≤ m) (hij : i < j) : rot (exch f (m - i) (m + j - i) i) m i (j - i) = rot f m i j := by
 funext x
 unfold rot exch
 repeat' split
 all_goals first | rfl | omega | (congr 1; omega)
structure Ord (lt : α → α → Prop) : Prop where
 irr : ∀ x, ¬ lt x x
 tr : ∀ x y z, lt x y → lt y z → lt x z
def SortedOn (lt : α → α → Prop) (f : Nat → α) (a b : Nat) : Prop := ∀ i j, a ≤ i → i < j → j < b → lt (f i) (f j)
theorem SortedOn.mono {lt : α → α → Prop} {f : Nat → α} {a b a' b' : Nat} (h : SortedOn lt f a b) (ha : a ≤ a') (hb : b' ≤ b) : SortedOn lt f a' b' := fun i j hi hij hj => h i j (by omega) hij (by omega)
theorem SortedOn.congr {lt : α → α → Prop} {f g : Nat → α} {a b : Nat} (h : SortedOn lt f a b) (hg : ∀ x, a ≤ x → x < b → g x = f x) : SortedOn lt g a b := fun i j hi hij hj => by
 rw [hg i hi (by omega), hg j (by omega) hj]; exact h i j hi hij hj
theorem SortedOn.glue {lt : α → α → Prop} {f : Nat → α} {a m b : Nat} (h1 : SortedOn lt f a m) (h2 : SortedOn lt f m b) (h : ∀ i j, a ≤ i → i < m → m ≤ j → j < b → lt (f i) (f j)) : SortedOn lt f a b := fun i j hi hij hj => by
 by_cases h3 : j < m
 ·exact h1 i j hi hij h3
 ·by_cases h4 : m ≤ i
  ·exact h2 i j h4 hij hj
  ·exact h i j hi (by omega) (by omega) hj
end Go.Ab.Srt
namespace Go.Ab.Srt
variable {α : Type}
structure Perm (a b : Nat) (f g : Nat → α) : Prop where
 ex : ∃ σ τ : Nat → Nat, (∀ x, τ (σ x) = x) ∧ (∀ x, σ (τ x) = x) ∧ (∀ x, ¬ (a ≤ x ∧ x < b) → σ x = x) ∧ g = fun x => f (σ x)
theorem Perm.refl (a b : Nat) (f : Nat → α) : Perm a b f f := ⟨id, id, fun _ => rfl, fun _ => rfl, fun _ _ => rfl, rfl⟩
theorem Perm.trans {a b : Nat} {f g h : Nat → α} (h1 : Perm a b f g) (h2 : Perm a b g h) : Perm a b f h := by
 obtain ⟨σ, τ, s1, s2, s3, s4⟩ := h1.ex
 obtain ⟨σ', τ', t1, t2, t3, t4⟩ := h2.ex
 refine ⟨fun x => σ (σ' x), fun x => τ' (τ x), fun x => by simp only [s1, t1], fun x => by simp only [t2, s2], fun x hx => by simp only [t3 x hx, s3 x hx], ?_⟩
 rw [t4, s4]
theorem perm_in {a b : Nat} {σ τ : Nat → Nat} (h1 : ∀ x, τ (σ x) = x) (h3 : ∀ x, ¬ (a ≤ x ∧ x < b) → σ x = x) (x : Nat) (hx : a ≤ x ∧ x < b) : a ≤ σ x ∧ σ x < b := by
 by_cases h : a ≤ σ x ∧ σ x < b
 ·exact h
 ·have e := h3 (σ x) h
  have e2 := congrArg τ e
  rw [h1, h1] at e2
  rw [e2] at h
  exact absurd hx h
theorem Perm.from {a b : Nat} {f g : Nat → α} (h : Perm a b f g) {x : Nat} (hx : a ≤ x ∧ x < b) : ∃ y, a ≤ y ∧ y < b ∧ g x = f y := by
 obtain ⟨σ, τ, s1, s2, s3, s4⟩ := h.ex
 have := perm_in s1 s3 x hx
 exact ⟨σ x, this.1, this.2, by rw [s4]⟩
theorem Perm.out {a b : Nat} {f g : Nat → α} (h : Perm a b f g) {x : Nat} (hx : ¬ (a ≤ x ∧ x < b)) : g x = f x := by
 obtain ⟨σ, τ, s1, s2, s3, s4⟩ := h.ex
 rw [s4]
 simp only [s3 x hx]
theorem Perm.mono {a b a' b' : Nat} {f g : Nat → α} (h : Perm a b f g) (ha : a' ≤ a) (hb : b ≤ b') : Perm a' b' f g := by
 obtain ⟨σ, τ, s1, s2, s3, s4⟩ := h.ex
 exact ⟨σ, τ, s1, s2, fun x hx => s3 x (by omega), s4⟩
theorem Perm.swp {a b i j : Nat} (f : Nat → α) (hi : a ≤ i ∧ i < b) (hj : a ≤ j ∧ j < b) : Perm a b f (swp f i j) := by
 refine ⟨fun x => if x = i then j else if x = j then i else x, fun x => if x = i then j else if x = j then i else x, ?_, ?_, ?_, ?_⟩
 ·intro x; simp only; repeat' split
  all_goals first | omega | rfl
 ·intro x; simp only; repeat' split
  all_goals first | omega | rfl
 ·intro x hx; simp only; repeat' split
  all_goals first | omega | rfl
 ·funext x
  show Srt.swp f i j x = f (if x = i then j else if x = j then i else x)
  unfold Srt.swp
  repeat' split
  all_goals first | rfl | omega
theorem Perm.rot {a b m i j : Nat} (f : Nat → α) (hi : i ≤ m) (ha : a ≤ m - i) (hb : m + j ≤ b) : Perm a b f (rot f m i j) := by
 refine ⟨fun x => if m - i ≤ x ∧ x < m - i + j then x + i else if m - i + j ≤ x ∧ x < m + j then x - j else x, fun x => if m ≤ x ∧ x < m + j then x - i else if m - i ≤ x ∧ x < m then x + j else x, ?_, ?_, ?_, ?_⟩
 ·intro x; simp only; repeat' split
  all_goals omega
 ·intro x; simp only; repeat' split
  all_goals omega
 ·intro x hx; simp only; repeat' split
  all_goals omega
 ·funext x
  show Srt.rot f m i j x = f (if m - i ≤ x ∧ x < m - i + j then x + i else if m - i + j ≤ x ∧ x < m + j then x - j else x)
  unfold Srt.rot
  repeat' split
  all_goals first | rfl | omega
theorem sorted_far {lt : α → α → Prop} {f g : Nat → α} {a b c d : Nat} (h : SortedOn lt f c d) (hp : Perm a b f g) (hd : d ≤ a ∨ b ≤ c) : SortedOn lt g c d :=
 h.congr fun x h1 h2 => hp.out (by omega)
structure Cut (lt : α → α → Prop) (f : Nat → α) (a s m e b : Nat) : Prop where
 as : a ≤ s
 sm : s ≤ m
 me : m ≤ e
 eb : e ≤ b
 lo : ∀ i j, a ≤ i → i < s → e ≤ j → j < b → lt (f i) (f j)
 hi : ∀ i j, m ≤ i → i < e → s ≤ j → j < m → lt (f i) (f j)
theorem cut_rot {lt : α → α → Prop} {f : Nat → α} {a s m e b : Nat} (h1 : SortedOn lt f a m) (h2 : SortedOn lt f m b) (hc : Cut lt f a s m e b) :
  let g := rot f m (m - s) (e - m); let mid := s + (e - m)
  SortedOn lt g a s ∧ SortedOn lt g s mid ∧ SortedOn lt g mid e ∧ SortedOn lt g e b ∧ ∀ i j, a ≤ i → i < mid → mid ≤ j → j < b → lt (g i) (g j) := by
 obtain ⟨c1, c2, c3, c4, c5, c6⟩ := hc
 have g1 : ∀ x, x < s → rot f m (m - s) (e - m) x = f x := fun x hx => by unfold rot; rw [if_neg (by omega), if_neg (by omega)]
 have g2 : ∀ x, s ≤ x → x < s + (e - m) → rot f m (m - s) (e - m) x = f (x + (m - s)) := fun x h h' => by unfold rot; rw [if_pos (by omega)]
 have g3 : ∀ x, s + (e - m) ≤ x → x < e → rot f m (m - s) (e - m) x = f (x - (e - m)) := fun x h h' => by unfold rot; rw [if_neg (by omega), if_pos (by omega)]
 have g4 : ∀ x, e ≤ x → rot f m (m - s) (e - m) x = f x := fun x hx => by unfold rot; rw [if_neg (by omega), if_neg (by omega)]
 refine ⟨fun i j hi hij hj => ?_, fun i j hi hij hj => ?_, fun i j hi hij hj => ?_, fun i j hi hij hj => ?_, fun i j hi hij hj hjb => ?_⟩
 ·rw [g1 i (by omega), g1 j (by omega)]; exact h1 i j hi hij (by omega)
 ·rw [g2 i hi (by omega), g2 j (by omega) hj]; exact h2 _ _ (by omega) (by omega) (by omega)
 ·rw [g3 i hi (by omega), g3 j (by omega) hj]; exact h1 _ _ (by omega) (by omega) (by omega)
 ·rw [g4 i hi, g4 j (by omega)]; exact h2 i j (by omega) hij hj
 ·by_cases q1 : i < s <;> by_cases q2 : j < e
  ·rw [g1 i q1, g3 j hj q2]; exact h1 _ _ hi (by omega) (by omega)
  ·rw [g1 i q1, g4 j (by omega)]; exact c5 i j hi q1 (by omega) hjb
  ·rw [g2 i (by omega) hij, g3 j hj q2]; exact c6 _ _ (by omega) (by omega) (by omega) (by omega)
  ·rw [g2 i (by omega) hij, g4 j (by omega)]; exact h2 _ _ (by omega) (by omega) hjb
end Go.Ab.Srt
namespace Go.Ab.Srt
variable {α : Type}
end Go.Ab.Srt
namespace Go.Ab.Srt
variable {α : Type}
structure WO (k : α → α → Prop) : Prop where
 irr : ∀ x, ¬ k x x
 tr : ∀ x y z, k x y → k y z → k x z
 nt : ∀ x y z, ¬ k x y → ¬ k y z → ¬ k x z
def lex (k : α → α → Prop) (x y : α × Nat) : Prop := k x.1 y.1 ∨ (¬ k y.1 x.1 ∧ x.2 < y.2)
theorem lex_ord {k : α → α → Prop} (w : WO k) : Ord (lex k) := by
 refine ⟨fun x h => ?_, fun x y z h1 h2 => ?_⟩
 ·rcases h with h | h
  ·exact w.irr _ h
  ·omega
 ·rcases h1 with h1 | ⟨h1, h1'⟩ <;> rcases h2 with h2 | ⟨h2, h2'⟩
  ·exact .inl (w.tr _ _ _ h1 h2)
  ·by_cases h : k x.1 z.1
   ·exact .inl h
   ·exact absurd h1 (w.nt _ _ _ h h2)
  ·by_cases h : k x.1 z.1
   ·exact .inl h
   ·exact absurd h2 (w.nt _ _ _ h1 h)
  ·exact .inr ⟨w.nt _ _ _ h2 h1, by omega⟩
theorem lex_else {k : α → α → Prop} {x y : α × Nat} (h : y.2 < x.2) (hn : ¬ k x.1 y.1) : lex k y x := .inr ⟨hn, h⟩
structure Ins (lt : α → α → Prop) (g : Nat → α) (a i j : Nat) : Prop where
 aj : a ≤ j
 ji : j ≤ i
 rest : ∀ p q, a ≤ p → p < q → q ≤ i → p ≠ j → q ≠ j → lt (g p) (g q)
 up : ∀ q, j < q → q ≤ i → lt (g j) (g q)
theorem Ins.start {lt : α → α → Prop} {g : Nat → α} {a i : Nat} (h : SortedOn lt g a i) (ha : a ≤ i) : Ins lt g a i i :=
 ⟨ha, Nat.le_refl _, fun p q h1 h2 h3 h4 h5 => h p q h1 h2 (by omega), fun q h1 h2 => by omega⟩
theorem Ins.step {lt : α → α → Prop} {g : Nat → α} {a i j : Nat} (h : Ins lt g a i j) (hj : a < j) (hl : lt (g j) (g (j - 1))) : Ins lt (swp g j (j - 1)) a i (j - 1) := by
 obtain ⟨h1, h2, h3, h4⟩ := h
 have e0 : swp g j (j - 1) j = g (j - 1) := by unfold swp; rw [if_pos rfl]
 have e1 : swp g j (j - 1) (j - 1) = g j := by unfold swp; rw [if_neg (by omega), if_pos rfl]
 have e2 : ∀ x, x ≠ j → x ≠ j - 1 → swp g j (j - 1) x = g x := fun x q1 q2 => by unfold swp; rw [if_neg q1, if_neg q2]
 refine ⟨by omega, by omega, fun p q a1 a2 a3 a4 a5 => ?_, fun q a1 a2 => ?_⟩
 ·by_cases c1 : p = j <;> by_cases c2 : q = j
  ·omega
  ·rw [c1, e0, e2 q c2 a5]; exact h3 (j - 1) q (by omega) (by omega) a3 (by omega) c2
  ·rw [c2, e0, e2 p c1 a4]; exact h3 p (j - 1) a1 (by omega) (by omega) c1 (by omega)
  ·rw [e2 p c1 a4, e2 q c2 a5]; exact h3 p q a1 a2 a3 c1 c2
 ·rw [e1]
  by_cases c : q = j
  ·rw [c, e0]; exact hl
  ·rw [e2 q c (by omega)]; exact h4 q (by omega) a2
theorem Ins.done {lt : α → α → Prop} (o : Ord lt) {g : Nat → α} {a i j : Nat} (h : Ins lt g a i j) (hj : j = a ∨ lt (g (j - 1)) (g j)) : SortedOn lt g a (i + 1) := by
 obtain ⟨h1, h2, h3, h4⟩ := h
 intro p q a1 a2 a3
 by_cases c1 : p = j
 ·rw [c1]; exact h4 q (by omega) (by omega)
 ·by_cases c2 : q = j
  ·rw [c2]
   rcases hj with hj | hj
   ·omega
   ·by_cases c3 : p = j - 1
    ·rw [c3]; exact hj
    ·exact o.tr _ _ _ (h3 p (j - 1) a1 (by omega) (by omega) c1 (by omega)) hj
  ·exact h3 p q a1 a2 (by omega) c1 c2
end Go.Ab.Srt
namespace Go.Ab.Srt
variable {α : Type}
theorem rot_zl (f : Nat → α) (m j : Nat) : rot f m 0 j = f := by
 funext x
 unfold rot
 repeat' split
 all_goals first | rfl | omega
theorem rot_zr (f : Nat → α) (m i : Nat) : rot f m i 0 = f := by
 funext x
 unfold rot
 repeat' split
 all_goals first | rfl | omega
theorem rot_fwd (f : Nat → α) (a j : Nat) : swp (rot f (a + 1) 1 j) (a + j) (a + j + 1) = rot f (a + 1) 1 (j + 1) := by
 funext x
 unfold swp rot
 repeat' split
 all_goals first | rfl | omega | (congr 1; omega)
theorem rot_bwd (f : Nat → α) (m p : Nat) (h : p + 1 ≤ m) : swp (rot f m p 1) (m - p) (m - p - 1) = rot f m (p + 1) 1 := by
 funext x
 unfold swp rot
 repeat' split
 all_goals first | rfl | omega | (congr 1; omega)
theorem ins_left {lt : α → α → Prop} {f : Nat → α} {a e b : Nat} (h : SortedOn lt f (a + 1) b) (h1 : a + 1 ≤ e) (h2 : e ≤ b) (lo : ∀ x, a + 1 ≤ x → x < e → lt (f x) (f a)) (hi : ∀ x, e ≤ x → x < b → lt (f a) (f x)) : SortedOn lt (rot f (a + 1) 1 (e - (a + 1))) a b := by
 have g2 : ∀ x, a ≤ x → x < e - 1 → rot f (a + 1) 1 (e - (a + 1)) x = f (x + 1) := fun x h h' => by unfold rot; rw [if_pos (by omega)]
 have g3 : rot f (a + 1) 1 (e - (a + 1)) (e - 1) = f a := by unfold rot; rw [if_neg (by omega), if_pos (by omega)]; congr 1; omega
 have g4 : ∀ x, e ≤ x → rot f (a + 1) 1 (e - (a + 1)) x = f x := fun x hx => by unfold rot; rw [if_neg (by omega), if_neg (by omega)]
 intro i j hi' hij hj
 by_cases q1 : i < e - 1
 ·rw [g2 i hi' q1]
  by_cases q2 : j < e - 1
  ·rw [g2 j (by omega) q2]; exact h _ _ (by omega) (by omega) (by omega)
  ·by_cases q3 : j = e - 1
   ·rw [q3, g3]; exact lo _ (by omega) (by omega)
   ·rw [g4 j (by omega)]; exact h _ _ (by omega) (by omega) hj
 ·by_cases q3 : i = e - 1
  ·rw [q3, g3, g4 j (by omega)]; exact hi j (by omega) hj
  ·rw [g4 i (by omega), g4 j (by omega)]; exact h _ _ (by omega) hij hj
theorem ins_right {lt : α → α → Prop} {f : Nat → α} {a s m : Nat} (h : SortedOn lt f a m) (h1 : a ≤ s) (h2 : s ≤ m) (lo : ∀ x, a ≤ x → x < s → lt (f x) (f m)) (hi : ∀ x, s ≤ x → x < m → lt (f m) (f x)) : SortedOn lt (rot f m (m - s) 1) a (m + 1) := by
 have g1 : ∀ x, x < s → rot f m (m - s) 1 x = f x := fun x hx => by unfold rot; rw [if_neg (by omega), if_neg (by omega)]
 have g2 : rot f m (m - s) 1 s = f m := by unfold rot; rw [if_pos (by omega)]; congr 1; omega
 have g3 : ∀ x, s < x → x < m + 1 → rot f m (m - s) 1 x = f (x - 1) := fun x h h' => by unfold rot; rw [if_neg (by omega), if_pos (by omega)]
 intro i j hi' hij hj
 by_cases q1 : i < s
 ·rw [g1 i q1]
  by_cases q2 : j < s
  ·rw [g1 j q2]; exact h _ _ hi' hij (by omega)
  ·by_cases q3 : j = s
   ·rw [q3, g2]; exact lo i hi' q1
   ·rw [g3 j (by omega) hj]; exact h _ _ hi' (by omega) (by omega)
 ·by_cases q3 : i = s
  ·rw [q3, g2, g3 j (by omega) hj]; exact hi _ (by omega) (by omega)
  ·rw [g3 i (by omega) (by omega), g3 j (by omega) hj]; exact h _ _ (by omega) (by omega) (by omega)
structure Bs (lt : α → α → Prop) (f : Nat → α) (a m b s0 r0 s r : Nat) : Prop where
 h0 : s0 ≤ s
 h1 : s ≤ r
 h2 : r ≤ r0
 lo : ∀ x, s0 ≤ x → x < s → lt (f x) (f ((a + b) / 2 + m - 1 - x))
 hi : ∀ x, r ≤ x → x < r0 → lt (f ((a + b) / 2 + m - 1 - x)) (f x)
structure Rng (a m b s0 r0 : Nat) : Prop where
 am : a < m
 mb : m < b
 c : (a + b) / 2 < m ∧ s0 = (a + b) / 2 + m - b ∧ r0 = (a + b) / 2 ∨ m ≤ (a + b) / 2 ∧ s0 = a ∧ r0 = m
theorem Rng.le {a m b s0 r0 : Nat} (h : Rng a m b s0 r0) : a ≤ s0 ∧ s0 ≤ r0 ∧ r0 ≤ m := by
 obtain ⟨h1, h2, h3⟩ := h; omega
theorem Rng.at {a m b s0 r0 : Nat} (h : Rng a m b s0 r0) {x : Nat} (h1 : s0 ≤ x) (h2 : x < r0) : a ≤ x ∧ x < m ∧ m ≤ (a + b) / 2 + m - 1 - x ∧ (a + b) / 2 + m - 1 - x < b := by
 obtain ⟨h3, h4, h5⟩ := h; omega
theorem Bs.start {lt : α → α → Prop} {f : Nat → α} {a m b s0 r0 : Nat} (h : s0 ≤ r0) : Bs lt f a m b s0 r0 s0 r0 := ⟨Nat.le_refl _, h, Nat.le_refl _, fun x h1 h2 => by omega, fun x h1 h2 => by omega⟩
theorem Bs.right {lt : α → α → Prop} (o : Ord lt) {f : Nat → α} {a m b s0 r0 s r : Nat} (hr : Rng a m b s0 r0) (l1 : SortedOn lt f a m) (l2 : SortedOn lt f m b) (h : Bs lt f a m b s0 r0 s r) {c : Nat} (hc1 : s ≤ c) (hc2 : c < r) (hl : lt (f c) (f ((a + b) / 2 + m - 1 - c))) : Bs lt f a m b s0 r0 (c + 1) r := by
 obtain ⟨h0, h1, h2, h3, h4⟩ := h
 refine ⟨by omega, by omega, h2, fun x x1 x2 => ?_, h4⟩
 rcases Nat.lt_or_ge x c with h5 | h5
 ·have q1 := hr.at (x := x) x1 (by omega)
  have q2 := hr.at (x := c) (by omega) (by omega)
  exact o.tr _ _ _ (o.tr _ _ _ (l1 x c (by omega) h5 (by omega)) hl) (l2 _ _ (by omega) (by omega) (by omega))
 ·rw [show x = c by omega]; exact hl
theorem Bs.left {lt : α → α → Prop} (o : Ord lt) {f : Nat → α} {a m b s0 r0 s r : Nat} (hr : Rng a m b s0 r0) (l1 : SortedOn lt f a m) (l2 : SortedOn lt f m b) (h : Bs lt f a m b s0 r0 s r) {c : Nat} (hc1 : s ≤ c) (hc2 : c < r) (hl : lt (f ((a + b) / 2 + m - 1 - c)) (f c)) : Bs lt f a m b s0 r0 s c := by
 obtain ⟨h0, h1, h2, h3, h4⟩ := h
 refine ⟨h0, hc1, by omega, h3, fun x x1 x2 => ?_⟩
 rcases Nat.lt_or_ge c x with h5 | h5
 ·have q1 := hr.at (x := x) (by omega) x2
  have q2 := hr.at (x := c) (by omega) (by omega)
  exact o.tr _ _ _ (o.tr _ _ _ (l2 _ _ (by omega) (by omega) (by omega)) hl) (l1 c x (by omega) h5 (by omega))
 ·rw [show x = c by omega]; exact hl
theorem Bs.cut {lt : α → α → Prop} (o : Ord lt) {f : Nat → α} {a m b s0 r0 s : Nat} (hr : Rng a m b s0 r0) (l1 : SortedOn lt f a m) (l2 : SortedOn lt f m b) (h : Bs lt f a m b s0 r0 s s) : Cut lt f a s m ((a + b) / 2 + m - s) b := by
 obtain ⟨h0, h1, h2, h3, h4⟩ := h
 have hl := hr.le
 have hq := hr.c
 have ham := hr.am
 have hmb := hr.mb
 have w1 : ∀ i j, a ≤ i → i ≤ j → j < m → f i = f j ∨ lt (f i) (f j) := fun i j a1 a2 a3 => by
  rcases Nat.eq_or_lt_of_le a2 with e | e
  ·exact .inl (by rw [e])
  ·exact .inr (l1 i j a1 e a3)
 have w2 : ∀ i j, m ≤ i → i ≤ j → j < b → f i = f j ∨ lt (f i) (f j) := fun i j a1 a2 a3 => by
  rcases Nat.eq_or_lt_of_le a2 with e | e
  ·exact .inl (by rw [e])
  ·exact .inr (l2 i j a1 e a3)
 have tr3 : ∀ x y z w, (x = y ∨ lt x y) → lt y z → (z = w ∨ lt z w) → lt x w := fun x y z w u1 u2 u3 => by
  rcases u1 with rfl | u1 <;> rcases u3 with rfl | u3
  ·exact u2
  ·exact o.tr _ _ _ u2 u3
  ·exact o.tr _ _ _ u1 u2
  ·exact o.tr _ _ _ (o.tr _ _ _ u1 u2) u3
 refine ⟨by omega, by omega, by omega, by omega, fun i j i1 i2 j1 j2 => ?_, fun i j i1 i2 j1 j2 => ?_⟩
 ·have hs : s0 < s := by omega
  have hx := h3 (s - 1) (by omega) (by omega)
  have q1 := hr.at (x := s - 1) (by omega) (by omega)
  exact tr3 _ _ _ _ (w1 i (s - 1) i1 (by omega) (by omega)) hx (w2 _ j (by omega) (by omega) j2)
 ·have hs : s < r0 := by omega
  have hx := h4 s (Nat.le_refl _) hs
  have q1 := hr.at (x := s) (by omega) (by omega)
  exact tr3 _ _ _ _ (w2 i _ i1 (by omega) (by omega)) hx (w1 s j (by omega) (by omega) j2)
theorem halves {lt : α → α → Prop} {g g1 g2 : Nat → α} {a k b : Nat} (p1 : Perm a k g g1) (s1 : SortedOn lt g1 a k) (p2 : Perm k b g1 g2) (s2 : SortedOn lt g2 k b) (h : ∀ i j, a ≤ i → i < k → k ≤ j → j < b → lt (g i) (g j)) : SortedOn lt g2 a b := by
 have s1' : SortedOn lt g2 a k := sorted_far s1 p2 (.inl (Nat.le_refl _))
 refine s1'.glue s2 fun i j i1 i2 j1 j2 => ?_
 rw [p2.out (x := i) (by omega)]
 obtain ⟨y, y1, y2, y3⟩ := p1.from ⟨i1, i2⟩
 obtain ⟨z, z1, z2, z3⟩ := p2.from ⟨j1, j2⟩
 rw [y3, z3, p1.out (x := z) (by omega)]
 exact h y z y1 y2 z1 z2
end Go.Ab.Srt
namespace Go.Ab.Srt
variable {α : Type}
def Qb (w n : Nat) (d : Nat → α × Nat) (a : Nat) : Prop := ∀ i, a ≤ i → i < n → (d i).2 / w = i / w
theorem Qb.perm {w n a b c : Nat} {d d' : Nat → α × Nat} (h : Qb w n d c) (hw : 0 < w) (p : Perm a b d d') (hb : b ≤ n) (hk : ∃ k, w * k ≤ a ∧ b ≤ w * k + w) (hc : c ≤ a ∨ b ≤ c) : Qb w n d' c := by
 intro i h1 h2
 by_cases hi : a ≤ i ∧ i < b
 ·obtain ⟨y, y1, y2, y3⟩ := p.from hi
  obtain ⟨k, k1, k2⟩ := hk
  rw [y3, h y (by omega) (by omega)]
  have e1 : i / w = k := by
   rw [Nat.div_eq_iff hw]; constructor
   ·rw [Nat.mul_comm]; omega
   ·rw [Nat.mul_comm]; omega
  have e2 : y / w = k := by
   rw [Nat.div_eq_iff hw]; constructor
   ·rw [Nat.mul_comm]; omega
   ·rw [Nat.mul_comm]; omega
  rw [e1, e2]
 ·rw [p.out hi]; exact h i h1 h2
theorem Qb.two {w n : Nat} {d : Nat → α × Nat} (h : Qb w n d 0) : Qb (2 * w) n d 0 := by
 intro i h1 h2
 have := h i h1 h2
 rw [Nat.mul_comm 2 w, ← Nat.div_div_eq_div_mul, ← Nat.div_div_eq_div_mul, this]
theorem Qb.lt {w n c : Nat} {d : Nat → α × Nat} (h : Qb w n d c) {i j : Nat} (hi : c ≤ i) (hj : j < n) (hij : i / w < j / w) (hjc : c ≤ j) (hin : i < n) : (d i).2 < (d j).2 := by
 have a := h i hi hin
 have b := h j hjc hj
 by_cases hl : (d i).2 < (d j).2
 ·exact hl
 ·have := Nat.div_le_div_right (c := w) (Nat.le_of_not_lt hl)
  omega
theorem blk_div {w k i : Nat} (hw : 0 < w) (h1 : w * k ≤ i) (h2 : i < w * k + w) : i / w = k := by
 rw [Nat.div_eq_iff hw]; constructor
 ·rw [Nat.mul_comm]; omega
 ·rw [Nat.mul_comm]; omega
end Go.Ab.Srt
namespace Go.Ab.Srt
variable {α : Type}
theorem perm_list {f g : Nat → α} {n : Nat} (h : Perm 0 n f g) : ((List.range n).map g).Perm ((List.range n).map f) := by
 obtain ⟨σ, τ, s1, s2, s3, s4⟩ := h.ex
 have hg : (List.range n).map g = ((List.range n).map σ).map f := by rw [s4, List.map_map]; rfl
 rw [hg]
 apply List.Perm.map
 have hnd : ((List.range n).map σ).Nodup := by
  refine List.Pairwise.map _ (R := (· ≠ ·)) (fun a b hab e => hab ?_) List.nodup_range
  have := congrArg τ e
  rwa [s1, s1] at this
 rw [List.perm_ext_iff_of_nodup hnd List.nodup_range]
 intro a
 simp only [List.mem_map, List.mem_range]
 constructor
 ·rintro ⟨x, hx, rfl⟩
  exact (perm_in s1 s3 x ⟨by omega, hx⟩).2
 ·intro ha
  exact ⟨τ a, (perm_in s2 (fun x hx => by have := s1 x; rw [s3 x hx] at this; exact this) a ⟨by omega, ha⟩).2, s2 a⟩
theorem pair_list {lt : α → α → Prop} {g : Nat → α} {n : Nat} (h : SortedOn lt g 0 n) : ((List.range n).map g).Pairwise lt := by
 rw [List.pairwise_map]
 refine List.Pairwise.imp_of_mem (R := (· < ·)) (fun {a b} ha hb hab => h a b (by omega) hab (List.mem_range.1 hb)) List.pairwise_lt_range
def Sorted (k : α → α → Prop) (xs ys : List α) : Prop := ∃ zs : List (α × Nat), zs.Perm xs.zipIdx ∧ zs.Pairwise (lex k) ∧ ys = zs.map (·.1)
theorem Sorted.nil (k : α → α → Prop) : Sorted k [] [] := ⟨[], by simp, by simp, rfl⟩
theorem zip_range (xs : List α) (f : Nat → α) (h : ∀ i, i < xs.length → xs[i]? = some (f i)) : xs.zipIdx = (List.range xs.length).map fun i => (f i, i) := by
 apply List.ext_getElem?
 intro i
 rw [List.getElem?_zipIdx, List.getElem?_map]
 by_cases hi : i < xs.length
 ·rw [h i hi]; simp [hi]
 ·rw [List.getElem?_eq_none (by omega), List.getElem?_eq_none (by simp; omega)]; rfl
theorem Sorted.of {k : α → α → Prop} {xs : List α} {f : Nat → α} (h : ∀ i, i < xs.length → xs[i]? = some (f i)) {d : Nat → α × Nat} (p : Perm 0 xs.length (fun i => (f i, i)) d) (s : SortedOn (lex k) d 0 xs.length) : Sorted k xs ((List.range xs.length).map fun i => (d i).1) :=
 ⟨(List.range xs.length).map d, by rw [zip_range xs f h]; exact perm_list p, pair_list s, by rw [List.map_map]; rfl⟩
theorem fst_zip : ∀ (xs : List α) (n : Nat), (xs.zipIdx n).map (·.1) = xs
 | [], _ => rfl
 | x :: xs, n => by simp only [List.zipIdx_cons, List.map_cons, fst_zip xs (n + 1)]
theorem Sorted.perm {k : α → α → Prop} {xs ys : List α} (h : Sorted k xs ys) : ys.Perm xs := by
 obtain ⟨zs, p, s, rfl⟩ := h
 have := p.map (·.1)
 rwa [fst_zip] at this
theorem Sorted.le {k : α → α → Prop} (w : WO k) {xs ys : List α} (h : Sorted k xs ys) : ys.Pairwise fun a b => ¬ k b a := by
 obtain ⟨zs, p, s, rfl⟩ := h
 rw [List.pairwise_map]
 refine s.imp fun {a b} h => ?_
 rcases h with h | h
 ·intro h2; exact w.irr _ (w.tr _ _ _ h h2)
 ·exact h.1
end Go.Ab.Srt
namespace Go.Ab.Srt
variable {α : Type}
theorem WO.of {lt : α → α → Prop} (irr : ∀ x, ¬ lt x x) (tr : ∀ x y z, lt x y → lt y z → lt x z) (tri : ∀ x y, lt x y ∨ x = y ∨ lt y x) : WO lt := by
 refine ⟨irr, tr, fun x y z h1 h2 h3 => ?_⟩
 rcases tri x y with h | rfl | h
 ·exact h1 h
 ·exact h2 h3
 ·exact h2 (tr _ _ _ h h3)
theorem WO.on {β : Type} {lt : α → α → Prop} (w : WO lt) (f : β → α) : WO fun x y => lt (f x) (f y) :=
 ⟨fun x => w.irr _, fun x y z => w.tr _ _ _, fun x y z => w.nt _ _ _⟩
def bl (x y : List UInt8) : Prop := Op.bytesLess x y = true
theorem bl_irr : ∀ x : List UInt8, Op.bytesLess x x = false
 | [] => rfl
 | a :: x => by simp [Op.bytesLess, bl_irr x]
theorem bl_cons {a b : UInt8} {x y : List UInt8} : bl (a :: x) (b :: y) ↔ a.toNat < b.toNat ∨ a.toNat = b.toNat ∧ bl x y := by
 unfold bl
 simp only [Op.bytesLess, Bool.or_eq_true, Bool.and_eq_true, decide_eq_true_eq, beq_iff_eq, UInt8.lt_iff_toNat_lt]
 constructor
 ·rintro (h | ⟨rfl, h⟩)
  ·exact .inl h
  ·exact .inr ⟨rfl, h⟩
 ·rintro (h | ⟨h1, h⟩)
  ·exact .inl h
  ·exact .inr ⟨UInt8.toNat_inj.1 h1, h⟩
theorem bl_nil (x : List UInt8) : ¬ bl x [] := by unfold bl; cases x <;> simp [Op.bytesLess]
theorem nil_bl (a : UInt8) (x : List UInt8) : bl [] (a :: x) := rfl
theorem bl_tr : ∀ x y z : List UInt8, bl x y → bl y z → bl x z
 | _, [], _, h, _ => absurd h (bl_nil _)
 | _, _ :: _, [], _, h => absurd h (bl_nil _)
 | [], _ :: _, c :: z, _, _ => nil_bl c z
 | a :: x, b :: y, c :: z, h1, h2 => by
  rw [bl_cons] at h1 h2 ⊢
  rcases h1 with h1 | ⟨h1, h1'⟩ <;> rcases h2 with h2 | ⟨h2, h2'⟩
  ·exact .inl (by omega)
  ·exact .inl (by omega)
  ·exact .inl (by omega)
  ·exact .inr ⟨by omega, bl_tr x y z h1' h2'⟩
theorem bl_tri : ∀ x y : List UInt8, bl x y ∨ x = y ∨ bl y x
 | [], [] => .inr (.inl rfl)
 | [], b :: y => .inl (nil_bl b y)
 | a :: x, [] => .inr (.inr (nil_bl a x))
 | a :: x, b :: y => by
  rw [bl_cons, bl_cons]
  rcases Nat.lt_trichotomy a.toNat b.toNat with h | h | h
  ·exact .inl (.inl h)
  ·rcases bl_tri x y with h2 | h2 | h2
   ·exact .inl (.inr ⟨h, h2⟩)
   ·exact .inr (.inl (by rw [UInt8.toNat_inj.1 h, h2]))
   ·exact .inr (.inr (.inr ⟨h.symm, h2⟩))
  ·exact .inr (.inr (.inl h))
theorem bl_wo : WO bl := .of (fun x h => by unfold bl at h; rw [bl_irr] at h; cases h) bl_tr bl_tri
theorem int_wo : WO fun x y : Int => x < y := .of (fun x => by omega) (fun x y z => by omega) (fun x y => by omega)
def cmpI (a b : Int) : Int := if a < b then -1 else if b < a then 1 else 0
theorem cmpI_neg (a b : Int) : cmpI a b < 0 ↔ a < b := by unfold cmpI; (repeat' split) <;> omega
def cmpB (a b : List UInt8) : Int := if Op.bytesLess a b then -1 else if Op.bytesLess b a then 1 else 0
theorem cmpB_neg (a b : List UInt8) : cmpB a b < 0 ↔ bl a b := by
 unfold cmpB bl
 cases Op.bytesLess a b <;> cases Op.bytesLess b a <;> simp
end Go.Ab.Srt
