/- What films that are not there answer is as the document says, whatever the number asked for (pomanderlaw22.FilmNone). No conditions. -/
import Derived.Test.YtpfigdddjljnpaaGreatP07
import Derived.Test.YtpfigdddjljnpaaGreatRows
import Derived.WalkKit
import Derived.ProofKit
import Derived.OpenShut
import Derived.ShutString
import Derived.ChangeOld
import Derived.Below
import Derived.SizedLaws
namespace Go.Ab
open Go.ChangeShapes Go.RowKit
section
variable {H : Type} {enc : TypeId × Value → H} {P : Program} {W : World}
theorem Reads.map {t : TypeId} {X Y : Type} {g : X → List AV} {g' : Y → List AV} {p : X → Prop} {p' : Y → Prop} (hr : Reads P enc W t X g p) (c : X → Y) (h : ∀ x, p x → g x = g' (c x) ∧ p' (c x)) : Reads P enc W t Y g' p' := by
 intro fuel cs x hx
 obtain ⟨y, h1, h2, h3⟩ := hr fuel cs x hx
 obtain ⟨k1, k2⟩ := h y h1
 exact ⟨c y, k2, k1 ▸ h2, h3⟩
end
end Go.Ab
namespace Go.Ab.Seat
open Go.Proofs Go.ChangeShapes Go.RowKit
set_option maxRecDepth 100000
section
variable {H : Type} {enc : TypeId × Value → H} {W : World}
theorem fine : Fine Tryz.prog := fine_of (by kernel_rfl)
theorem reads_i64 : Reads Tryz.prog enc W 3 Int (fun n => [.int .i64 n]) (fun _ => True) := (reads_int Tryz.underlying3).map id fun _ _ => ⟨rfl, trivial⟩
end
end Go.Ab.Seat
namespace Go.Proofs.YtpfigdddjljnpaaGreat
open Go.Ab Go.Ab.Seat Go.ChangeShapes Go.WideShapes Go.ChangeAt Go.RowKit
theorem seatOwn : ownKnob Tryz.prog.godebug = none := by kernel_rfl
theorem seatLaid : laidOutB Tryz.prog = true := by kernel_rfl
set_option maxRecDepth 100000 in
theorem filmNone_lifted (os : Os) (started : os.Started) (H : Type) (enc : TypeId × Value → H) :
  ReturnsInHanded {} Tryz.checked os 3 .any (Rows.filmNoneSpec.pre6 enc Tryz.prog Tryz.f3 Rows.filmNoneRow.domain false) (Rows.filmNoneSpec.post enc Tryz.prog Tryz.f3 false true false false) := by
 refine lifted_of_ev (C := Tryz.checked) (rt := 4) started seatOwn (by kernel_rfl) Tryz.func3
  (ChangeSpec.witness6 (enc := enc) (C := Tryz.checked) false ⟨#[], #[.int .i64 0], []⟩ 8 (by kernel_rfl) (by kernel_rfl) (by kernel_rfl) (by kernel_rfl))
  fine seatLaid ?_ ?_ ?_ ?_ ppol ?_
 ·intro t ht
  rw [show Tryz.f3.params.toList = [3] from rfl] at ht
  simp only [List.mem_cons, List.not_mem_nil, or_false] at ht
  subst ht
  exact ⟨by kernel_rfl, of_decide_eq_true (by kernel_rfl)⟩
 ·rfl
 ·exact Tryz.underlying4
 ·refine ⟨rfl, fun H ds hds => ?_⟩
  match ds, hds with
  | [d1], _ => exact ⟨rfl, rfl, rfl⟩
 ·intro W args ds ps hval hA
  obtain ⟨base, hval⟩ := hval
  have hA : DataW.TrodAll enc Tryz.prog W 0 (fun _ => true) true [3] args ds ps := hA
  obtain ⟨v0, vs0, d0, ds0, p0, q0, rfl, rfl, rfl, h0, r0⟩ := trodAll_cons hA
  obtain ⟨rfl, rfl, rfl⟩ := trodAll_nil r0
  obtain ⟨n0, rfl⟩ := okWide_int Tryz.underlying3 (hval 0 3 v0 rfl rfl)
  obtain ⟨z, -, k0⟩ := arg_cell reads_i64 (by simp [flat]) h0
  obtain ⟨p, S', e⟩ := none_run z
  exact ⟨_, k0, 200, p, S', e⟩
theorem filmNone_holds : Rows.FilmNoneSaid :=
 OpenClaim.holds_of_wide 3 Tryz.f3 rfl rfl rfl rfl rfl rfl rfl ⟨rfl, rfl, rfl, rfl, rfl⟩ rfl rfl rfl rfl rfl (by kernel_rfl) Tryz.func3 (by kernel_rfl)
  (of_decide_eq_true (by kernel_rfl)) (by unfold Func.isWrapper; first | (rw [if_pos (by decide +kernel)]; kernel_rfl) | (rw [if_neg (by decide +kernel)]; exact ⟨rfl, rfl⟩))
  (fun os started H enc _ => filmNone_lifted os started H enc)
#print axioms filmNone_holds
end Go.Proofs.YtpfigdddjljnpaaGreat
