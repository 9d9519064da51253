/- Raw and Check tell of one event as the document says, whatever the event (pomanderlaw19.ScriptTells). No conditions. -/
import Derived.Test.YtfhihaadmmfdbaaGreatP07
import Derived.Test.YtfhihaadmmfdbaaGreatRows
import Derived.WalkKit
import Derived.ProofKit
import Derived.OpenShut
import Derived.ShutString
import Derived.ChangeOld
import Derived.Below
import Derived.SizedLaws
namespace Go.Ab
open Go.ChangeShapes Go.RowKit
section
variable {H : Type} {enc : TypeId × Value → H} {P : Program} {W : World}
theorem Reads.map {t : TypeId} {X Y : Type} {g : X → List AV} {g' : Y → List AV} {p : X → Prop} {p' : Y → Prop} (hr : Reads P enc W t X g p) (c : X → Y) (h : ∀ x, p x → g x = g' (c x) ∧ p' (c x)) : Reads P enc W t Y g' p' := by
 intro fuel cs x hx
 obtain ⟨y, h1, h2, h3⟩ := hr fuel cs x hx
 obtain ⟨k1, k2⟩ := h y h1
 exact ⟨c y, k2, k1 ▸ h2, h3⟩
theorem reads_four {t : TypeId} {f0 f1 f2 f3 : Field} {X0 X1 X2 X3 : Type} {g0 : X0 → List AV} {g1 : X1 → List AV} {g2 : X2 → List AV} {g3 : X3 → List AV} {p0 : X0 → Prop} {p1 : X1 → Prop} {p2 : X2 → Prop} {p3 : X3 → Prop} (ht : P.underlying t = some (.struct #[f0, f1, f2, f3]))
  (h0 : Reads P enc W f0.type X0 g0 p0) (o0 : f0.offset = 0) (c0 : P.cellsOf f0.type = 1) (h1 : Reads P enc W f1.type X1 g1 p1) (o1 : f1.offset = 1) (c1 : P.cellsOf f1.type = 1)
  (h2 : Reads P enc W f2.type X2 g2 p2) (o2 : f2.offset = 2) (c2 : P.cellsOf f2.type = 1) (h3 : Reads P enc W f3.type X3 g3 p3) (o3 : f3.offset = 3) (c3 : P.cellsOf f3.type = 1) (c : P.cellsOf t = 4) :
  Reads P enc W t (X0 × X1 × X2 × X3) (fun z => g0 z.1 ++ (g1 z.2.1 ++ (g2 z.2.2.1 ++ g3 z.2.2.2))) (fun z => p0 z.1 ∧ p1 z.2.1 ∧ p2 z.2.2.1 ∧ p3 z.2.2.2) := by
 have n : ReadsFields P enc W [] (0 + P.cellsOf f0.type + P.cellsOf f1.type + P.cellsOf f2.type + P.cellsOf f3.type) Unit (fun _ => []) (fun _ => True) (P.cellsOf t) := by
  rw [c0, c1, c2, c3, c]; exact fields_nil
 have s3 := fields_cons (off := 0 + P.cellsOf f0.type + P.cellsOf f1.type + P.cellsOf f2.type) h3 (by rw [o3, c0, c1, c2]) (by rw [c0, c1, c2, c3, c]; omega) n
 have s2 := fields_cons (off := 0 + P.cellsOf f0.type + P.cellsOf f1.type) h2 (by rw [o2, c0, c1]) (by rw [c0, c1, c2, c]; omega) s3
 have s1 := fields_cons (off := 0 + P.cellsOf f0.type) h1 (by rw [o1, c0]) (by rw [c0, c1, c]; omega) s2
 have s0 := fields_cons (off := 0) h0 o0 (by rw [c0, c]; omega) s1
 have := reads_struct ht s0
 exact this.map (fun z => (z.1, z.2.1, z.2.2.1, z.2.2.2.1)) fun z hz => ⟨by simp, hz.1, hz.2.1, hz.2.2.1, hz.2.2.2.1⟩
end
end Go.Ab
namespace Go.Ab.Seat
open Go.Proofs Go.ChangeShapes Go.RowKit
set_option maxRecDepth 100000
section
variable {H : Type} {enc : TypeId × Value → H} {W : World}
theorem fine : Fine Tryz.prog := fine_of (by kernel_rfl)
theorem byteRow_of (n : Nat) (h : n < 256) : byteRow (UInt8.ofNat n) = [.int .u8 n] := by
 simp only [byteRow, UInt8.toNat_ofNat', Nat.mod_eq_of_lt h]
theorem reads_byte : Reads Tryz.prog enc W 5 UInt8 byteRow (fun _ => True) :=
 (reads_int Tryz.underlying5).map (fun n => UInt8.ofNat n.toNat) fun n hn => by
  have : 0 ≤ n ∧ n ≤ 255 := by simpa [Lit.wf, IntKind.min, IntKind.max, IntKind.signed, IntKind.bits] using hn
  refine ⟨?_, trivial⟩
  rw [byteRow_of _ (by omega), Int.toNat_of_nonneg this.1]
theorem reads_bytes : Reads Tryz.prog enc W 26 (Option (List UInt8)) (fun o => [sv false 1 byteRow o]) (fun _ => True) :=
 (reads_slice Tryz.underlying26 (by rw [tycells5]; omega) reads_byte).map id fun o _ => ⟨by rw [slA_sv, tycells5]; rfl, trivial⟩
theorem reads_ev : Reads Tryz.prog enc W 29 Ev evC (fun e => 0 ≤ e.s ∧ e.s < 4294967296) :=
 (reads_four Tryz.underlying29 (reads_int Tryz.underlying25) rfl tycells25 (reads_int Tryz.underlying3) rfl tycells3 reads_bytes rfl tycells26 (reads_int Tryz.underlying27) rfl tycells27 tycells29).map (fun z => ⟨z.1, z.2.1, z.2.2.1, z.2.2.2⟩) fun z hz => by
  have : 0 ≤ z.2.2.2 ∧ z.2.2.2 ≤ 4294967295 := by simpa [Lit.wf, IntKind.min, IntKind.max, IntKind.signed, IntKind.bits] using hz.2.2.2
  exact ⟨rfl, this.1, show z.2.2.2 < 4294967296 by omega⟩
end
end Go.Ab.Seat
namespace Go.Proofs.YtfhihaadmmfdbaaGreat
open Go.Ab Go.Ab.Seat Go.ChangeShapes Go.WideShapes Go.ChangeAt Go.RowKit
theorem seatOwn : ownKnob Tryz.prog.godebug = none := by kernel_rfl
theorem seatLaid : laidOutB Tryz.prog = true := by kernel_rfl
set_option maxRecDepth 100000 in
theorem scriptTells_lifted (os : Os) (started : os.Started) (H : Type) (enc : TypeId × Value → H) :
  ReturnsInHanded {} Tryz.checked os 6 .any (Rows.scriptTellsSpec.pre6 enc Tryz.prog Tryz.f6 Rows.scriptTellsRow.domain false) (Rows.scriptTellsSpec.post enc Tryz.prog Tryz.f6 false true false false) := by
 refine lifted_of_ev (C := Tryz.checked) (rt := 4) started seatOwn (by kernel_rfl) Tryz.func6
  (ChangeSpec.witness6 (enc := enc) (C := Tryz.checked) false ⟨#[], #[.agg #[.int .i64 0, .int .i64 0, .slice none 0 0, .int .u32 0]], []⟩ 8 (by kernel_rfl) (by kernel_rfl) (by kernel_rfl) (by kernel_rfl))
  fine seatLaid ?_ ?_ ?_ ?_ ppol ?_
 ·intro t ht
  rw [show Tryz.f6.params.toList = [29] from rfl] at ht
  simp only [List.mem_cons, List.not_mem_nil, or_false] at ht
  subst ht
  exact ⟨by kernel_rfl, of_decide_eq_true (by kernel_rfl)⟩
 ·rfl
 ·exact Tryz.underlying4
 ·refine ⟨rfl, fun H ds hds => ?_⟩
  match ds, hds with
  | [d1], _ => exact ⟨rfl, rfl, rfl⟩
 ·intro W args ds ps hval hA
  obtain ⟨base, hval⟩ := hval
  have hA : DataW.TrodAll enc Tryz.prog W 0 (fun _ => true) true [29] args ds ps := hA
  obtain ⟨v0, vs0, d0, ds0, p0, q0, rfl, rfl, rfl, h0, r0⟩ := trodAll_cons hA
  obtain ⟨rfl, rfl, rfl⟩ := trodAll_nil r0
  obtain ⟨cs, rfl, -⟩ := okWide_struct Tryz.underlying29 (hval 0 29 v0 rfl rfl)
  obtain ⟨e, he, k0⟩ := arg_agg reads_ev h0
  obtain ⟨p, S', h⟩ := tells_run e he.1 he.2
  exact ⟨_, k0, 200, p, S', h⟩
theorem scriptTells_holds : Rows.ScriptTellsSaid :=
 OpenClaim.holds_of_wide 6 Tryz.f6 rfl rfl rfl rfl rfl rfl rfl ⟨rfl, rfl, rfl, rfl, rfl⟩ rfl rfl rfl rfl rfl (by kernel_rfl) Tryz.func6 (by kernel_rfl)
  (of_decide_eq_true (by kernel_rfl)) (by unfold Func.isWrapper; first | (rw [if_pos (by decide +kernel)]; kernel_rfl) | (rw [if_neg (by decide +kernel)]; exact ⟨rfl, rfl⟩))
  (fun os started H enc _ => scriptTells_lifted os started H enc)
#print axioms scriptTells_holds
end Go.Proofs.YtfhihaadmmfdbaaGreat
