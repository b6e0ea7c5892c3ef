/- CurveTimes: for every two numbers and points the call returns true, nothing that was there turns; each argument reads behind the call as it read before. No conditions. -/
import Derived.Test.YtabiimelnalapaaKB
import Derived.Test.YtabiimelnalapaaQ26
namespace Go.Proofs.Ytabiimelnalapaa
open Go Go.RowKit Go.ChangeShapes
noncomputable def ctm_X : EnvT Try.prog := { cs := [c_cvmul, c_cvsum, cr_mul, cr_sum, cr_on, c_awake06], fis := [fi_trucelaw06_CurveTimes] }

theorem ctm_tree (k l x y u v : BitVec 256) (n m : Bool) : (callT (ctm_X) (execT (ctm_X) 100) 4 [.u k, .agg [.u x, .u y, .bool n], .u l, .agg [.u u, .u v, .bool m]] [] [] 0 []).map CR.v =
    (.ite (!(okP x y n))
     (.leaf (.bool true))
     (.ite (!(okP u v m))
      (.leaf (.bool true))
      (.need (okP x y n)
      (.need (okP x y n)
      (.ite (((ptX (Pt.mul (BitVec.toNat k) (ptOf x y n))) == (ptX (Pt.mul (BitVec.toNat k) (ptOf x y n)))) && (((ptY (Pt.mul (BitVec.toNat k) (ptOf x y n))) == (ptY (Pt.mul (BitVec.toNat k) (ptOf x y n)))) && (((ptN (Pt.mul (BitVec.toNat k) (ptOf x y n))) == (ptN (Pt.mul (BitVec.toNat k) (ptOf x y n)))) && true)))
       (.need (okP x y n)
       (.need (okP u v m)
       (.need (okP x y n)
       (.need (okP u v m)
       (.ite (((ptX (two (BitVec.toNat k) (ptOf x y n) (BitVec.toNat l) (ptOf u v m))) == (ptX (two (BitVec.toNat k) (ptOf x y n) (BitVec.toNat l) (ptOf u v m)))) && (((ptY (two (BitVec.toNat k) (ptOf x y n) (BitVec.toNat l) (ptOf u v m))) == (ptY (two (BitVec.toNat k) (ptOf x y n) (BitVec.toNat l) (ptOf u v m)))) && (((ptN (two (BitVec.toNat k) (ptOf x y n) (BitVec.toNat l) (ptOf u v m))) == (ptN (two (BitVec.toNat k) (ptOf x y n) (BitVec.toNat l) (ptOf u v m)))) && true)))
        (.leaf (.bool true))
        (.leaf (.bool false)))))))
       (.leaf (.bool false))))))) := by kernel_rfl
theorem curveTimes_pure (avs : List AV) (h : Fits [argU, argP, argU, argP] avs) : Pure Try.prog 4 avs (.bool true) := by
  obtain ⟨_, _, ⟨k, rfl⟩, ⟨_, _, h1, ⟨_, _, ⟨l, rfl⟩, ⟨_, _, h2, rfl, rfl⟩, rfl⟩, rfl⟩, rfl⟩ := h
  obtain ⟨x, y, n, rfl⟩ := argP_out h1
  obtain ⟨u, v, m, rfl⟩ := argP_out h2
  refine Pure.by_tree mixed _ 100 _ _ (ctm_tree k l x y u v n m) (T.yes_ok ?_)
  cases e1 : okP x y n with
  | false => exact ⟨fun _ => rfl, fun h => absurd h (by decide)⟩
  | true => cases e2 : okP u v m with
    | false => exact ⟨fun _ => rfl, fun _ => ⟨fun _ => rfl, fun h => absurd h (by decide)⟩⟩
    | true => simp [T.yes]

theorem curveTimes_walk : Walk Try.prog 4 Try.f4.params.toList := by
  rw [Try.params4]
  exact Walk.of fi_trucelaw06_CurveTimes rfl [argU, argP, argU, argP] curveTimes_pure

set_option maxRecDepth 100000 in
theorem curveTimes_lifted (os : Os) (started : os.Started) (H : Type) (enc : TypeId × Value → H) :
    ReturnsInHanded {} Try.checked os 4 .any (Rows.curveTimesSpec.pre6 enc Try.prog Try.f4 Rows.curveTimesRow.domain false) (Rows.curveTimesSpec.post enc Try.prog Try.f4 false true false false) :=
  lifted_of (s := Rows.curveTimesSpec) 4 Try.f4 4 Try.underlying4 (by kernel_rfl) rfl Try.func4 (by kernel_rfl)
      (fun _ ds hl => by
        rw [Try.params4] at hl
        match ds, hl with
        | [_, _, _, _], _ => rfl) (by kernel_rfl) curveTimes_walk os started H enc
      (ChangeSpec.witness6 (enc := enc) (C := Try.checked) false ⟨#[], #[zeroU, zeroPt, zeroU, zeroPt], []⟩ 8 (by kernel_rfl) (by kernel_rfl) (by kernel_rfl) (by kernel_rfl))

theorem curveTimes_holds : Rows.CurveTimesSaid :=
  OpenClaim.holds_of_wide 4 Try.f4 rfl rfl rfl rfl rfl rfl rfl ⟨rfl, rfl, rfl, rfl, rfl⟩ rfl rfl rfl rfl rfl (by kernel_rfl) Try.func4 curveTimes_closed
    (of_decide_eq_true (by kernel_rfl)) (by unfold Func.isWrapper; first | (rw [if_pos (by decide +kernel)]; kernel_rfl) | (rw [if_neg (by decide +kernel)]; exact ⟨rfl, rfl⟩))
    (fun os started H enc _ => curveTimes_lifted os started H enc)
#print axioms curveTimes_holds

end Go.Proofs.Ytabiimelnalapaa
