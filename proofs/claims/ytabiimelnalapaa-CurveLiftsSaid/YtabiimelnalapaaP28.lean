/- CurveLifts: for every point, number and flag the call returns true, nothing that was there turns; each argument reads behind the call as it read before. No conditions. -/
import Derived.Test.YtabiimelnalapaaKB
import Derived.Test.YtabiimelnalapaaQ28
namespace Go.Proofs.Ytabiimelnalapaa
open Go Go.RowKit Go.ChangeShapes
/-- The second half: the point told by its X. -/
def cliR (x y : BitVec 256) (n : Bool) : T AV :=
(.ite (!(okP x y n)) (.leaf (.bool true)) (.ite n (.leaf (.bool true)) (.ite (liftK x) (.ite (((liftU (liftK x) x) == x) && (((liftU (liftK x) (liftS x (oddU y))) == y) && ((false == n) && true))) (.leaf (.bool true)) (.leaf (.bool false))) (.leaf (.bool false)))))
noncomputable def cli_X : EnvT Try.prog := { cs := [c_lift, cr_on, c_awake06], fis := [fi_trucelaw06_CurveLifts] }

theorem cli_tree (x y a : BitVec 256) (n odd : Bool) : (callT (cli_X) (execT (cli_X) 100) 6 [.agg [.u x, .u y, .bool n], .u a, .bool odd] [] [] 0 []).map CR.v =
    (.ite (liftK a)
     (.ite (!(okP (liftU (liftK a) a) (liftU (liftK a) (liftS a odd)) false))
      (.leaf (.bool false))
      (.ite (!((liftU (liftK a) a) == a))
       (.leaf (.bool false))
       (.ite false
        (.leaf (.bool false))
        (.need true
        (.ite (!((liftU (liftK a) (liftS a odd)) == (ofLimbs (0 : Int) (0 : Int) (0 : Int) (0 : Int))))
         (.ite (!((oddU (liftU (liftK a) (liftS a odd))) == odd))
          (.leaf (.bool false))
          (.ite (!(liftK a))
           (.need true
           (.need true
           (.ite (!(((liftU (liftK a) a) == (ofLimbs (0 : Int) (0 : Int) (0 : Int) (0 : Int))) && (((liftU (liftK a) (liftS a odd)) == (ofLimbs (0 : Int) (0 : Int) (0 : Int) (0 : Int))) && true)))
            (.leaf (.bool false))
            (cliR x y n))))
           (cliR x y n)))
         (.ite (!(liftK a))
          (.need true
          (.need true
          (.ite (!(((liftU (liftK a) a) == (ofLimbs (0 : Int) (0 : Int) (0 : Int) (0 : Int))) && (((liftU (liftK a) (liftS a odd)) == (ofLimbs (0 : Int) (0 : Int) (0 : Int) (0 : Int))) && true)))
           (.leaf (.bool false))
           (cliR x y n))))
          (cliR x y n)))))))
     (.ite (!(liftK a))
      (.need true
      (.need true
      (.ite (!(((liftU (liftK a) a) == (ofLimbs (0 : Int) (0 : Int) (0 : Int) (0 : Int))) && (((liftU (liftK a) (liftS a odd)) == (ofLimbs (0 : Int) (0 : Int) (0 : Int) (0 : Int))) && true)))
       (.leaf (.bool false))
       (cliR x y n))))
      (cliR x y n))) := by kernel_rfl
theorem cliR_yes (x y : BitVec 256) (n : Bool) : (cliR x y n).yes := by
  unfold cliR
  cases e1 : okP x y n with
  | false => exact ⟨fun _ => rfl, fun h => absurd h (by decide)⟩
  | true => cases n with
    | true => exact ⟨fun _ => rfl, fun _ => ⟨fun _ => rfl, fun h => absurd h (by decide)⟩⟩
    | false =>
      obtain ⟨h1, h2⟩ := lift_back e1
      rw [h1]
      simp [T.yes, liftU_true, h2]
theorem curveLifts_pure (avs : List AV) (h : Fits [argP, argU, argB] avs) : Pure Try.prog 6 avs (.bool true) := by
  obtain ⟨_, _, h1, ⟨_, _, ⟨a, rfl⟩, ⟨_, _, ⟨odd, rfl⟩, rfl, rfl⟩, rfl⟩, rfl⟩ := h
  obtain ⟨x, y, n, rfl⟩ := argP_out h1
  refine Pure.by_tree mixed _ 100 _ _ (cli_tree x y a n odd) (T.yes_ok ?_)
  have hR := cliR_yes x y n
  generalize cliR x y n = r at hR
  cases hk : liftK a with
  | false =>
    refine ⟨fun h => absurd h (by decide), fun _ => ⟨fun _ => ⟨rfl, rfl, fun h => ?_, fun _ => hR⟩, fun h => absurd h (by decide)⟩⟩
    rw [liftU_false, liftU_false, cv_zero4] at h; exact absurd h (by decide)
  | true =>
    have hon := lift_on hk odd
    have e1 := liftU_true a
    have e2 := liftU_true (liftS a odd)
    rw [e1, e2, hon]
    refine ⟨fun _ => ⟨fun h => absurd h (by decide), fun _ => ⟨fun h => absurd h (by simp), fun _ => ⟨fun h => absurd h (by decide), fun _ => ⟨rfl, fun hs => ?_, fun _ => ?_⟩⟩⟩⟩, fun h => absurd h (by decide)⟩
    · have hs : liftS a odd ≠ 0 := by
        intro e
        rw [e, cv_zero4] at hs
        exact absurd hs (by decide)
      have ho : oddU (liftS a odd) = odd := lift_odd hs
      refine ⟨fun h => absurd h (by simp [ho]), fun _ => ⟨fun h => absurd h (by decide), fun _ => hR⟩⟩
    · exact ⟨fun h => absurd h (by decide), fun _ => hR⟩

theorem curveLifts_walk : Walk Try.prog 6 Try.f6.params.toList := by
  rw [Try.params6]
  exact Walk.of fi_trucelaw06_CurveLifts rfl [argP, argU, argB] curveLifts_pure

set_option maxRecDepth 100000 in
theorem curveLifts_lifted (os : Os) (started : os.Started) (H : Type) (enc : TypeId × Value → H) :
    ReturnsInHanded {} Try.checked os 6 .any (Rows.curveLiftsSpec.pre6 enc Try.prog Try.f6 Rows.curveLiftsRow.domain false) (Rows.curveLiftsSpec.post enc Try.prog Try.f6 false true false false) :=
  lifted_of (s := Rows.curveLiftsSpec) 6 Try.f6 4 Try.underlying4 (by kernel_rfl) rfl Try.func6 (by kernel_rfl)
      (fun _ ds hl => by
        rw [Try.params6] at hl
        match ds, hl with
        | [_, _, _], _ => rfl) (by kernel_rfl) curveLifts_walk os started H enc
      (ChangeSpec.witness6 (enc := enc) (C := Try.checked) false ⟨#[], #[zeroPt, zeroU, .bool false], []⟩ 8 (by kernel_rfl) (by kernel_rfl) (by kernel_rfl) (by kernel_rfl))

theorem curveLifts_holds : Rows.CurveLiftsSaid :=
  OpenClaim.holds_of_wide 6 Try.f6 rfl rfl rfl rfl rfl rfl rfl ⟨rfl, rfl, rfl, rfl, rfl⟩ rfl rfl rfl rfl rfl (by kernel_rfl) Try.func6 curveLifts_closed
    (of_decide_eq_true (by kernel_rfl)) (by unfold Func.isWrapper; first | (rw [if_pos (by decide +kernel)]; kernel_rfl) | (rw [if_neg (by decide +kernel)]; exact ⟨rfl, rfl⟩))
    (fun os started H enc _ => curveLifts_lifted os started H enc)
#print axioms curveLifts_holds

end Go.Proofs.Ytabiimelnalapaa
