/- CurveTells: for every two points, number and flag the call returns true, nothing that was there turns; each argument reads behind the call as it read before. No conditions. -/
import Derived.Test.YtabiimelnalapaaKB
import Derived.Test.YtabiimelnalapaaQ29
namespace Go.Proofs.Ytabiimelnalapaa
open Go Go.RowKit Go.ChangeShapes
noncomputable def cte_X : EnvT Try.prog := { cs := [c_cvadd, c_cvneg, c_cvon, c_lift, c_prime, c_cvorder, c_cvbase, cr_add, crv_neg, cr_on, cr_lift, c_rprime, cr_order, cr_base, c_awake06], fis := [fi_trucelaw06_CurveTells] }

theorem cte_tree (x y u v a : BitVec 256) (n m odd : Bool) : (callT (cte_X) (execT (cte_X) 100) 7 [.agg [.u x, .u y, .bool n], .agg [.u u, .u v, .bool m], .u a, .bool odd] [] [] 0 []).map CR.v =
    (.ite (!((okP x y n) == (okP x y n)))
     (.leaf (.bool false))
     (.ite (!(((liftU (liftK a) a) == (liftU (liftK a) a)) && (((liftU (liftK a) (liftS a odd)) == (liftU (liftK a) (liftS a odd))) && true)))
      (.leaf (.bool false))
      (.ite (!((liftK a) == (liftK a)))
       (.leaf (.bool false))
       (.ite false
        (.leaf (.bool false))
        (.ite false
         (.leaf (.bool false))
         (.ite false
          (.leaf (.bool false))
          (.ite (!(okP x y n))
           (.leaf (.bool true))
           (.ite (!(okP u v m))
            (.leaf (.bool true))
            (.need (ltP y)
            (.need (n || (ltP y))
            (.ite ((x == x) && (((uF (- (fU y))) == (rcvnY y n)) && ((n == n) && true)))
             (.need (okP x y n)
             (.need (okP u v m)
             (.need (okP x y n)
             (.need (okP u v m)
             (.ite (((ptX (Pt.add (ptOf x y n) (ptOf u v m))) == (ptX (Pt.add (ptOf x y n) (ptOf u v m)))) && (((ptY (Pt.add (ptOf x y n) (ptOf u v m))) == (ptY (Pt.add (ptOf x y n) (ptOf u v m)))) && (((ptN (Pt.add (ptOf x y n) (ptOf u v m))) == (ptN (Pt.add (ptOf x y n) (ptOf u v m)))) && true)))
              (.need (okP x y n)
              (.need (okP x y n)
              (.need (okP x y n)
              (.need (okP x y n)
              (.ite (((ptX (Pt.add (ptOf x y n) (ptOf x y n))) == (ptX (Pt.add (ptOf x y n) (ptOf x y n)))) && (((ptY (Pt.add (ptOf x y n) (ptOf x y n))) == (ptY (Pt.add (ptOf x y n) (ptOf x y n)))) && (((ptN (Pt.add (ptOf x y n) (ptOf x y n))) == (ptN (Pt.add (ptOf x y n) (ptOf x y n)))) && true)))
               (.leaf (.bool true))
               (.leaf (.bool false)))))))
              (.leaf (.bool false)))))))
             (.leaf (.bool false))))))))))))) := by kernel_rfl
theorem rcvnY_pt (P : Pt pP) : rcvnY (ptY P) (ptN P) = uF (- (fU (ptY P))) := by
  cases P with
  | O => exact neg_zero.symm
  | A x y => rfl
theorem cte_yes {P Q : Pt pP} (hP : P.on) (hQ : Q.on) (a : BitVec 256) (odd : Bool) : Pure Try.prog 7 [.agg [.u (ptX P), .u (ptY P), .bool (ptN P)], .agg [.u (ptX Q), .u (ptY Q), .bool (ptN Q)], .u a, .bool odd] (.bool true) := by
  refine Pure.by_tree mixed _ 100 _ _ (cte_tree (ptX P) (ptY P) (ptX Q) (ptY Q) a (ptN P) (ptN Q) odd) (T.yes_ok ?_)
  generalize liftK a = lk
  generalize liftS a odd = ls
  simp only [ptOf_pt, rcvnY_pt, okP_pt hP, okP_pt hQ, ltP_ptY, beq_self_eq_true, Bool.and_true, Bool.or_true, Bool.not_true, T.yes]
  simp
theorem curveTells_pure (avs : List AV) (h : Fits [argP, argP, argU, argB] avs) : Pure Try.prog 7 avs (.bool true) := by
  obtain ⟨_, _, h1, ⟨_, _, h2, ⟨_, _, ⟨a, rfl⟩, ⟨_, _, ⟨odd, rfl⟩, rfl, rfl⟩, rfl⟩, rfl⟩, rfl⟩ := h
  obtain ⟨x, y, n, rfl⟩ := argP_out h1
  obtain ⟨u, v, m, rfl⟩ := argP_out h2
  cases e1 : okP x y n with
  | false =>
    refine Pure.by_tree mixed _ 100 _ _ (cte_tree x y u v a n m odd) (T.yes_ok ?_)
    generalize liftK a = lk
    generalize liftS a odd = ls
    rw [e1]
    simp [T.yes]
  | true => cases e2 : okP u v m with
    | false =>
      refine Pure.by_tree mixed _ 100 _ _ (cte_tree x y u v a n m odd) (T.yes_ok ?_)
      generalize liftK a = lk
      generalize liftS a odd = ls
      rw [e1, e2]
      simp [T.yes]
    | true =>
      obtain ⟨P, hP, rfl, rfl, rfl⟩ := okP_out e1
      obtain ⟨Q, hQ, rfl, rfl, rfl⟩ := okP_out e2
      exact cte_yes hP hQ a odd

theorem curveTells_walk : Walk Try.prog 7 Try.f7.params.toList := by
  rw [Try.params7]
  exact Walk.of fi_trucelaw06_CurveTells rfl [argP, argP, argU, argB] curveTells_pure

set_option maxRecDepth 100000 in
theorem curveTells_lifted (os : Os) (started : os.Started) (H : Type) (enc : TypeId × Value → H) :
    ReturnsInHanded {} Try.checked os 7 .any (Rows.curveTellsSpec.pre6 enc Try.prog Try.f7 Rows.curveTellsRow.domain false) (Rows.curveTellsSpec.post enc Try.prog Try.f7 false true false false) :=
  lifted_of (s := Rows.curveTellsSpec) 7 Try.f7 4 Try.underlying4 (by kernel_rfl) rfl Try.func7 (by kernel_rfl)
      (fun _ ds hl => by
        rw [Try.params7] at hl
        match ds, hl with
        | [_, _, _, _], _ => rfl) (by kernel_rfl) curveTells_walk os started H enc
      (ChangeSpec.witness6 (enc := enc) (C := Try.checked) false ⟨#[], #[zeroPt, zeroPt, zeroU, .bool false], []⟩ 8 (by kernel_rfl) (by kernel_rfl) (by kernel_rfl) (by kernel_rfl))

theorem curveTells_holds : Rows.CurveTellsSaid :=
  OpenClaim.holds_of_wide 7 Try.f7 rfl rfl rfl rfl rfl rfl rfl ⟨rfl, rfl, rfl, rfl, rfl⟩ rfl rfl rfl rfl rfl (by kernel_rfl) Try.func7 curveTells_closed
    (of_decide_eq_true (by kernel_rfl)) (by unfold Func.isWrapper; first | (rw [if_pos (by decide +kernel)]; kernel_rfl) | (rw [if_neg (by decide +kernel)]; exact ⟨rfl, rfl⟩))
    (fun os started H enc _ => curveTells_lifted os started H enc)
#print axioms curveTells_holds

end Go.Proofs.Ytabiimelnalapaa
