/- CurveGroup: for every three points the call returns true, nothing that was there turns; each argument reads behind the call as it read before. No conditions. -/
import Derived.Test.YtabiimelnalapaaKB
import Derived.Test.YtabiimelnalapaaQ25
namespace Go.Proofs.Ytabiimelnalapaa
open Go Go.RowKit Go.ChangeShapes
noncomputable def cg_X : EnvT Try.prog := { cs := [c_cvadd, c_cvneg, cr_on, c_awake06], fis := [fi_trucelaw06_CurveGroup] }

theorem cg_tree (x y u v s t : BitVec 256) (n m o : Bool) : (callT (cg_X) (execT (cg_X) 100) 3 [.agg [.u x, .u y, .bool n], .agg [.u u, .u v, .bool m], .agg [.u s, .u t, .bool o]] [] [] 0 []).map CR.v =
    (.ite (!(okP x y n))
     (.leaf (.bool true))
     (.ite (!(okP u v m))
      (.leaf (.bool true))
      (.ite (!(okP s t o))
       (.leaf (.bool true))
       (.need (okP x y n)
       (.need (okP u v m)
       (.need (okP u v m)
       (.need (okP x y n)
       (.ite (((ptX (Pt.add (ptOf x y n) (ptOf u v m))) == (ptX (Pt.add (ptOf u v m) (ptOf x y n)))) && (((ptY (Pt.add (ptOf x y n) (ptOf u v m))) == (ptY (Pt.add (ptOf u v m) (ptOf x y n)))) && (((ptN (Pt.add (ptOf x y n) (ptOf u v m))) == (ptN (Pt.add (ptOf u v m) (ptOf x y n)))) && true)))
        (.ite (okP (ptX (Pt.add (ptOf x y n) (ptOf u v m))) (ptY (Pt.add (ptOf x y n) (ptOf u v m))) (ptN (Pt.add (ptOf x y n) (ptOf u v m))))
         (.need (okP (ptX (Pt.add (ptOf x y n) (ptOf u v m))) (ptY (Pt.add (ptOf x y n) (ptOf u v m))) (ptN (Pt.add (ptOf x y n) (ptOf u v m))))
         (.need (okP s t o)
         (.need (okP u v m)
         (.need (okP s t o)
         (.need (okP x y n)
         (.need (okP (ptX (Pt.add (ptOf u v m) (ptOf s t o))) (ptY (Pt.add (ptOf u v m) (ptOf s t o))) (ptN (Pt.add (ptOf u v m) (ptOf s t o))))
         (.ite (((ptX (Pt.add (ptOf (ptX (Pt.add (ptOf x y n) (ptOf u v m))) (ptY (Pt.add (ptOf x y n) (ptOf u v m))) (ptN (Pt.add (ptOf x y n) (ptOf u v m)))) (ptOf s t o))) == (ptX (Pt.add (ptOf x y n) (ptOf (ptX (Pt.add (ptOf u v m) (ptOf s t o))) (ptY (Pt.add (ptOf u v m) (ptOf s t o))) (ptN (Pt.add (ptOf u v m) (ptOf s t o))))))) && (((ptY (Pt.add (ptOf (ptX (Pt.add (ptOf x y n) (ptOf u v m))) (ptY (Pt.add (ptOf x y n) (ptOf u v m))) (ptN (Pt.add (ptOf x y n) (ptOf u v m)))) (ptOf s t o))) == (ptY (Pt.add (ptOf x y n) (ptOf (ptX (Pt.add (ptOf u v m) (ptOf s t o))) (ptY (Pt.add (ptOf u v m) (ptOf s t o))) (ptN (Pt.add (ptOf u v m) (ptOf s t o))))))) && (((ptN (Pt.add (ptOf (ptX (Pt.add (ptOf x y n) (ptOf u v m))) (ptY (Pt.add (ptOf x y n) (ptOf u v m))) (ptN (Pt.add (ptOf x y n) (ptOf u v m)))) (ptOf s t o))) == (ptN (Pt.add (ptOf x y n) (ptOf (ptX (Pt.add (ptOf u v m) (ptOf s t o))) (ptY (Pt.add (ptOf u v m) (ptOf s t o))) (ptN (Pt.add (ptOf u v m) (ptOf s t o))))))) && true)))
          (.need (ltP y)
          (.need (okP x y n)
          (.need (okP x (uF (- (fU y))) n)
          (.need true
          (.need true
          (.ite (((ptX (Pt.add (ptOf x y n) (ptOf x (uF (- (fU y))) n))) == (ofLimbs (0 : Int) (0 : Int) (0 : Int) (0 : Int))) && (((ptY (Pt.add (ptOf x y n) (ptOf x (uF (- (fU y))) n))) == (ofLimbs (0 : Int) (0 : Int) (0 : Int) (0 : Int))) && (((ptN (Pt.add (ptOf x y n) (ptOf x (uF (- (fU y))) n))) == true) && true)))
           (.need true
           (.need true
           (.need (okP x y n)
           (.need (okP (ofLimbs (0 : Int) (0 : Int) (0 : Int) (0 : Int)) (ofLimbs (0 : Int) (0 : Int) (0 : Int) (0 : Int)) true)
           (.ite (((ptX (Pt.add (ptOf x y n) (ptOf (ofLimbs (0 : Int) (0 : Int) (0 : Int) (0 : Int)) (ofLimbs (0 : Int) (0 : Int) (0 : Int) (0 : Int)) true))) == x) && (((ptY (Pt.add (ptOf x y n) (ptOf (ofLimbs (0 : Int) (0 : Int) (0 : Int) (0 : Int)) (ofLimbs (0 : Int) (0 : Int) (0 : Int) (0 : Int)) true))) == y) && (((ptN (Pt.add (ptOf x y n) (ptOf (ofLimbs (0 : Int) (0 : Int) (0 : Int) (0 : Int)) (ofLimbs (0 : Int) (0 : Int) (0 : Int) (0 : Int)) true))) == n) && true)))
            (.leaf (.bool true))
            (.leaf (.bool false)))))))
           (.leaf (.bool false))))))))
          (.leaf (.bool false)))))))))
         (.leaf (.bool false)))
        (.leaf (.bool false)))))))))) := by kernel_rfl
theorem cg_yes {P Q R : Pt pP} (hP : P.on) (hQ : Q.on) (hR : R.on) : Pure Try.prog 3 [.agg [.u (ptX P), .u (ptY P), .bool (ptN P)], .agg [.u (ptX Q), .u (ptY Q), .bool (ptN Q)], .agg [.u (ptX R), .u (ptY R), .bool (ptN R)]] (.bool true) := by
  refine Pure.by_tree mixed _ 100 _ _ (cg_tree (ptX P) (ptY P) (ptX Q) (ptY Q) (ptX R) (ptY R) (ptN P) (ptN Q) (ptN R)) (T.yes_ok ?_)
  have hPQ := Pt.add_on cuP hP hQ
  have hQR := Pt.add_on cuP hQ hR
  simp only [ptOf_pt, ptOf_neg, ptOf_none, okP_pt hP, okP_pt hQ, okP_pt hR, okP_pt hPQ, okP_pt hQR, okP_neg hP, okP_zero, ltP_ptY, Pt.add_neg cuP hP, Pt.add_O, Pt.add_comm cuP hQ hP, Pt.add_assoc cuP hP hQ hR, ptX_O, ptY_O, ptN_O, beq_self_eq_true, Bool.and_true, Bool.not_true, T.yes]
  simp
theorem curveGroup_pure (avs : List AV) (h : Fits [argP, argP, argP] avs) : Pure Try.prog 3 avs (.bool true) := by
  obtain ⟨_, _, h1, ⟨_, _, h2, ⟨_, _, h3, rfl, rfl⟩, rfl⟩, rfl⟩ := h
  obtain ⟨x, y, n, rfl⟩ := argP_out h1
  obtain ⟨u, v, m, rfl⟩ := argP_out h2
  obtain ⟨s, t, o, rfl⟩ := argP_out h3
  cases e1 : okP x y n with
  | false =>
    refine Pure.by_tree mixed _ 100 _ _ (cg_tree x y u v s t n m o) (T.yes_ok ?_)
    rw [e1]; exact ⟨fun _ => rfl, fun h => absurd h (by decide)⟩
  | true => cases e2 : okP u v m with
    | false =>
      refine Pure.by_tree mixed _ 100 _ _ (cg_tree x y u v s t n m o) (T.yes_ok ?_)
      rw [e2]; exact ⟨fun _ => rfl, fun _ => ⟨fun _ => rfl, fun h => absurd h (by decide)⟩⟩
    | true => cases e3 : okP s t o with
      | false =>
        refine Pure.by_tree mixed _ 100 _ _ (cg_tree x y u v s t n m o) (T.yes_ok ?_)
        rw [e3]; exact ⟨fun _ => rfl, fun _ => ⟨fun _ => rfl, fun _ => ⟨fun _ => rfl, fun h => absurd h (by decide)⟩⟩⟩
      | true =>
        obtain ⟨P, hP, rfl, rfl, rfl⟩ := okP_out e1
        obtain ⟨Q, hQ, rfl, rfl, rfl⟩ := okP_out e2
        obtain ⟨R, hR, rfl, rfl, rfl⟩ := okP_out e3
        exact cg_yes hP hQ hR

theorem curveGroup_walk : Walk Try.prog 3 Try.f3.params.toList := by
  rw [Try.params3]
  exact Walk.of fi_trucelaw06_CurveGroup rfl [argP, argP, argP] curveGroup_pure

set_option maxRecDepth 100000 in
theorem curveGroup_lifted (os : Os) (started : os.Started) (H : Type) (enc : TypeId × Value → H) :
    ReturnsInHanded {} Try.checked os 3 .any (Rows.curveGroupSpec.pre6 enc Try.prog Try.f3 Rows.curveGroupRow.domain false) (Rows.curveGroupSpec.post enc Try.prog Try.f3 false true false false) :=
  lifted_of (s := Rows.curveGroupSpec) 3 Try.f3 4 Try.underlying4 (by kernel_rfl) rfl Try.func3 (by kernel_rfl)
      (fun _ ds hl => by
        rw [Try.params3] at hl
        match ds, hl with
        | [_, _, _], _ => rfl) (by kernel_rfl) curveGroup_walk os started H enc
      (ChangeSpec.witness6 (enc := enc) (C := Try.checked) false ⟨#[], #[zeroPt, zeroPt, zeroPt], []⟩ 8 (by kernel_rfl) (by kernel_rfl) (by kernel_rfl) (by kernel_rfl))

theorem curveGroup_holds : Rows.CurveGroupSaid :=
  OpenClaim.holds_of_wide 3 Try.f3 rfl rfl rfl rfl rfl rfl rfl ⟨rfl, rfl, rfl, rfl, rfl⟩ rfl rfl rfl rfl rfl (by kernel_rfl) Try.func3 curveGroup_closed
    (of_decide_eq_true (by kernel_rfl)) (by unfold Func.isWrapper; first | (rw [if_pos (by decide +kernel)]; kernel_rfl) | (rw [if_neg (by decide +kernel)]; exact ⟨rfl, rfl⟩))
    (fun os started H enc _ => curveGroup_lifted os started H enc)
#print axioms curveGroup_holds

end Go.Proofs.Ytabiimelnalapaa
