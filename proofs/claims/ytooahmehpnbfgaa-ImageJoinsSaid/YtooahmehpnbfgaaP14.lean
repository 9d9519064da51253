/- Joining image files in the program answers as joining them in the document does, whatever the two files (pomanderlaw21.ImageJoins). No conditions. -/
import Derived.Test.YtooahmehpnbfgaaP13
import Derived.Test.YtooahmehpnbfgaaRows
import Derived.WalkKit
import Derived.ProofKit
import Derived.OpenShut
import Derived.ShutString
import Derived.ChangeOld
import Derived.Below
import Derived.SizedLaws
namespace Go.Ab
open Go.ChangeShapes Go.RowKit
section
variable {H : Type} {enc : TypeId × Value → H} {P : Program} {W : World}
theorem Reads.map {t : TypeId} {X Y : Type} {g : X → List AV} {g' : Y → List AV} {p : X → Prop} {p' : Y → Prop} (hr : Reads P enc W t X g p) (c : X → Y) (h : ∀ x, p x → g x = g' (c x) ∧ p' (c x)) : Reads P enc W t Y g' p' := by
 intro fuel cs x hx
 obtain ⟨y, h1, h2, h3⟩ := hr fuel cs x hx
 obtain ⟨k1, k2⟩ := h y h1
 exact ⟨c y, k2, k1 ▸ h2, h3⟩
theorem reads_two {t : TypeId} {f0 f1 : Field} {X Y : Type} {g : X → List AV} {g' : Y → List AV} {p : X → Prop} {p' : Y → Prop} (ht : P.underlying t = some (.struct #[f0, f1])) (h0 : Reads P enc W f0.type X g p) (o0 : f0.offset = 0) (c0 : P.cellsOf f0.type = 1)
  (h1 : Reads P enc W f1.type Y g' p') (o1 : f1.offset = 1) (c1 : P.cellsOf f1.type = 1) (c : P.cellsOf t = 2) : Reads P enc W t (X × Y) (fun z => g z.1 ++ g' z.2) (fun z => p z.1 ∧ p' z.2) := by
 have n : ReadsFields P enc W [] (0 + P.cellsOf f0.type + P.cellsOf f1.type) Unit (fun _ => []) (fun _ => True) (P.cellsOf t) := by
  rw [c0, c1, c]; exact fields_nil
 have s1 := fields_cons (off := 0 + P.cellsOf f0.type) h1 (by rw [o1, c0]) (by rw [c0, c1, c]; omega) n
 have s0 := fields_cons (off := 0) h0 o0 (by rw [c0, c]; omega) s1
 have := reads_struct ht s0
 exact this.map (fun z => (z.1, z.2.1)) fun z hz => ⟨by simp, hz.1, hz.2.1⟩
end
end Go.Ab
namespace Go.Ab.Seat
open Go.Proofs Go.ChangeShapes Go.RowKit
set_option maxRecDepth 100000
section
variable {H : Type} {enc : TypeId × Value → H} {W : World}
theorem reads_byte : Reads Try.prog enc W 5 UInt8 byteRow (fun _ => True) :=
 (reads_int Try.underlying5).map (fun n => UInt8.ofNat n.toNat) fun n hn => by
  have : 0 ≤ n ∧ n ≤ 255 := by simpa [Lit.wf, IntKind.min, IntKind.max, IntKind.signed, IntKind.bits] using hn
  refine ⟨?_, trivial⟩
  rw [byteRow_of _ (by omega), Int.toNat_of_nonneg this.1]
theorem reads_bytes : Reads Try.prog enc W 28 (Option (List UInt8)) (fun o => [sv false 1 byteRow o]) (fun _ => True) :=
 (reads_slice Try.underlying28 (by rw [tycells5]; omega) reads_byte).map id fun o _ => ⟨by rw [slA_sv, tycells5]; rfl, trivial⟩
theorem reads_i64 : Reads Try.prog enc W 3 Int (fun n => [.int .i64 n]) (fun n => (Lit.int .i64 n).wf = true) := reads_int Try.underlying3
theorem reads_part : Reads Try.prog enc W 45 PartV partRow (fun _ => True) :=
 (reads_two Try.underlying45 reads_i64 rfl tycells3 reads_bytes rfl tycells28 tycells45).map (fun z => ⟨z.1, z.2⟩) fun _ _ => ⟨rfl, trivial⟩
theorem reads_str : Reads Try.prog enc W 9 (List UInt8) (fun s => [.str s]) (fun s => s.length ≤ maxLen) := reads_string Try.underlying9
theorem reads_sym : Reads Try.prog enc W 64 SymV symRow (fun _ => True) :=
 (reads_two Try.underlying64 reads_str rfl tycells9 reads_i64 rfl tycells3 tycells64).map (fun z => ⟨z.1, z.2⟩) fun _ _ => ⟨rfl, trivial⟩
theorem reads_parts : Reads Try.prog enc W 22 (Option (List PartV)) (fun o => [sv false 2 partRow o]) (fun _ => True) :=
 (reads_slice Try.underlying22 (by rw [tycells45]; omega) reads_part).map id fun o _ => ⟨by rw [slA_sv, tycells45]; rfl, trivial⟩
theorem reads_syms : Reads Try.prog enc W 23 (Option (List SymV)) (fun o => [sv false 2 symRow o]) (fun _ => True) :=
 (reads_slice Try.underlying23 (by rw [tycells64]; omega) reads_sym).map id fun o _ => ⟨by rw [slA_sv, tycells64]; rfl, trivial⟩
theorem reads_file : Reads Try.prog enc W 25 FileV fileC (fun _ => True) :=
 (reads_two Try.underlying25 reads_parts rfl tycells22 reads_syms rfl tycells23 tycells25).map (fun z => ⟨z.1, z.2⟩) fun _ _ => ⟨rfl, trivial⟩
end
end Go.Ab.Seat
namespace Go.Proofs.Ytooahmehpnbfgaa
open Go.Ab Go.Ab.Seat Go.ChangeShapes Go.WideShapes Go.ChangeAt Go.RowKit
theorem seatOwn : ownKnob Try.prog.godebug = none := by kernel_rfl
theorem seatLaid : laidOutB Try.prog = true := by kernel_rfl
end Go.Proofs.Ytooahmehpnbfgaa
namespace Go.Ab.Seat
open Go.Proofs Go.ChangeShapes Go.RowKit
set_option maxRecDepth 100000
section
variable {H : Type} {enc : TypeId × Value → H} {W : World}
end
end Go.Ab.Seat
namespace Go.Proofs.Ytooahmehpnbfgaa
open Go.Ab Go.Ab.Seat Go.ChangeShapes Go.WideShapes Go.ChangeAt Go.RowKit
end Go.Proofs.Ytooahmehpnbfgaa
namespace Go.Proofs.Ytooahmehpnbfgaa
open Go.Ab Go.Ab.Seat Go.ChangeShapes Go.WideShapes Go.ChangeAt Go.RowKit
set_option maxRecDepth 100000 in
theorem imageJoins_lifted (os : Os) (started : os.Started) (H : Type) (enc : TypeId × Value → H) :
  ReturnsInHanded {} Try.checked os 4 .any (Rows.imageJoinsSpec.pre6 enc Try.prog Try.f4 Rows.imageJoinsRow.domain false) (Rows.imageJoinsSpec.post enc Try.prog Try.f4 false true false false) := by
 refine lifted_of_ev (C := Try.checked) (rt := 4) started seatOwn (by kernel_rfl) Try.func4
  (ChangeSpec.witness6 (enc := enc) (C := Try.checked) false ⟨#[], #[.agg #[.slice none 0 0, .slice none 0 0], .agg #[.slice none 0 0, .slice none 0 0]], []⟩ 8 (by kernel_rfl) (by kernel_rfl) (by kernel_rfl) (by kernel_rfl))
  fine seatLaid ?_ ?_ ?_ ?_ ppol ?_
 ·intro t ht
  rw [show Try.f4.params.toList = [25, 25] from rfl] at ht
  simp only [List.mem_cons, List.not_mem_nil, or_false] at ht
  rcases ht with rfl | rfl
  ·exact ⟨by kernel_rfl, of_decide_eq_true (by kernel_rfl)⟩
  ·exact ⟨by kernel_rfl, of_decide_eq_true (by kernel_rfl)⟩
 ·rfl
 ·exact Try.underlying4
 ·refine ⟨rfl, fun H ds hds => ?_⟩
  match ds, hds with
  | [d1, d2], _ => exact ⟨rfl, rfl, rfl⟩
 ·intro W args ds ps hval hA
  obtain ⟨base, hval⟩ := hval
  have hA : DataW.TrodAll enc Try.prog W 0 (fun _ => true) true [25, 25] args ds ps := hA
  obtain ⟨v0, vs0, d0, ds0, p0, q0, rfl, rfl, rfl, h0, r0⟩ := trodAll_cons hA
  obtain ⟨v1, vs1, d1, ds1, p1, q1, rfl, rfl, rfl, h1, r1⟩ := trodAll_cons r0
  obtain ⟨rfl, rfl, rfl⟩ := trodAll_nil r1
  obtain ⟨cs, rfl, -⟩ := okWide_struct Try.underlying25 (hval 0 25 v0 rfl rfl)
  obtain ⟨cs1, rfl, -⟩ := okWide_struct Try.underlying25 (hval 1 25 v1 rfl rfl)
  obtain ⟨f, -, k0⟩ := arg_agg reads_file h0
  obtain ⟨g, -, k1⟩ := arg_agg reads_file h1
  refine ⟨[.agg (fileC f), .agg (fileC g)], ?_, 2 ^ 20 + 201, ?_⟩
  ·exact (k0.append (ListRel.any _ none 0 _ _ k1))
  ·obtain ⟨S', e⟩ := joins_run (N := 2 ^ 20 + 201) (S := { heap := [], next := 0 }) f g (by omega) (SOK.nil 0)
   exact ⟨_, S', e⟩
theorem imageJoins_holds : Rows.ImageJoinsSaid :=
 OpenClaim.holds_of_wide 4 Try.f4 rfl rfl rfl rfl rfl rfl rfl ⟨rfl, rfl, rfl, rfl, rfl⟩ rfl rfl rfl rfl rfl (by kernel_rfl) Try.func4 (by kernel_rfl)
  (of_decide_eq_true (by kernel_rfl)) (by unfold Func.isWrapper; first | (rw [if_pos (by decide +kernel)]; kernel_rfl) | (rw [if_neg (by decide +kernel)]; exact ⟨rfl, rfl⟩))
  (fun os started H enc _ => imageJoins_lifted os started H enc)
#print axioms imageJoins_holds
end Go.Proofs.Ytooahmehpnbfgaa
