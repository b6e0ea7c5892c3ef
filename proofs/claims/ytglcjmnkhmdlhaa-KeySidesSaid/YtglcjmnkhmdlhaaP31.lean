/- KeySides: for every number the call returns true, nothing that was there turns; the argument reads behind the call as it read before. No conditions. -/
import Derived.Test.YtglcjmnkhmdlhaaKD
import Derived.Test.YtglcjmnkhmdlhaaKB
import Derived.Test.YtglcjmnkhmdlhaaQ31
namespace Go.Proofs.Ytglcjmnkhmdlhaa
open Go Go.RowKit Go.ChangeShapes
noncomputable def kd_X : EnvT Try.prog := { cs := [c_keypublic, c_keyfit, c_awake07, cr_order, cr_on, c_ref_Sub, crv_neg], fis := [fi_trucelaw07_KeySides] }
theorem kd_tree (k : BitVec 256) : (callT (kd_X) (execT (kd_X) 100) 3 [.u k] [] [] 0 []).map CR.v =
    (.ite ((pubE k) != (0 : Int))
     (.need true
     (.need true
     (.ite (((pubX k) == (ofLimbs (0 : Int) (0 : Int) (0 : Int) (0 : Int))) && (((pubY k) == (ofLimbs (0 : Int) (0 : Int) (0 : Int) (0 : Int))) && (((pubN k) == false) && true)))
      (.ite (!(fitK k))
       (.leaf (.bool true))
       (.leaf (.bool false)))
      (.leaf (.bool false)))))
     (.ite (okP (pubX k) (pubY k) (pubN k))
      (.ite (!(pubN k))
       (.ite ((pubE (nU - k)) == (0 : Int))
        (.need ((pubN k) || (ltP (pubY k)))
        (.ite (((pubX (nU - k)) == (pubX k)) && (((pubY (nU - k)) == (rcvnY (pubY k) (pubN k))) && (((pubN (nU - k)) == (pubN k)) && true)))
         (.ite (!(((pubX k) == (pubX (nU - k))) && (((pubY k) == (pubY (nU - k))) && (((pubN k) == (pubN (nU - k))) && true))))
          (.leaf (.bool true))
          (.leaf (.bool false)))
         (.leaf (.bool false))))
        (.leaf (.bool false)))
       (.leaf (.bool false)))
      (.leaf (.bool false)))) := by kernel_rfl
theorem fitK_iff (k : BitVec 256) : fitK k = true ↔ 0 < k.toNat ∧ k.toNat < nP := by
  unfold fitK
  rw [nU_nat]
  simp only [Bool.and_eq_true, decide_eq_true_eq, Bool.not_eq_true', beq_eq_false_iff_ne]
  constructor
  · rintro ⟨h1, h2⟩
    refine ⟨?_, h2⟩
    rcases Nat.eq_zero_or_pos k.toNat with e | e
    · exact absurd (BitVec.eq_of_toNat_eq (by rw [e]; rfl)) h1
    · exact e
  · rintro ⟨h1, h2⟩
    exact ⟨fun e => by rw [e] at h1; exact Nat.lt_irrefl 0 h1, h2⟩
theorem side_nat {k : BitVec 256} (h : fitK k = true) : (nU - k).toNat = nP - k.toNat := by
  obtain ⟨_, h2⟩ := (fitK_iff k).1 h
  rw [BitVec.toNat_sub_of_le (BitVec.le_def.2 (by rw [nU_nat]; exact Nat.le_of_lt h2)), nU_nat]
theorem side_fit {k : BitVec 256} (h : fitK k = true) : fitK (nU - k) = true := by
  obtain ⟨h1, h2⟩ := (fitK_iff k).1 h
  rw [fitK_iff, side_nat h]
  omega
theorem cancel_O {P Q R : Pt pP} (hP : P.on) (hQ : Q.on) (hR : R.on) (h1 : P.add R = .O) (h2 : Q.add R = .O) : P = Q :=
  Pt.cancel cuP hP hQ hR (h1.trans h2.symm)
theorem side_ptj {k j : BitVec 256} (h : fitK k = true) (hj : j.toNat = nP - k.toNat) : kPt j = (kPt k).neg := by
  obtain ⟨h1, h2⟩ := (fitK_iff k).1 h
  have hk := kPt_on k
  have h3 : (kPt j).add (kPt k) = .O := by
    unfold kPt
    rw [hj, ← Pt.mul_add cuP gP_on, show nP - k.toNat + k.toNat = nP by omega, gP_O]
  have h4 : (kPt k).neg.add (kPt k) = .O := by
    rw [Pt.add_comm cuP (Pt.neg_on hk) hk, Pt.add_neg cuP hk]
  exact cancel_O (kPt_on j) (Pt.neg_on hk) hk h3 h4
theorem pub_yes {k : BitVec 256} (h : fitK k = true) : pubX k = ptX (kPt k) ∧ pubY k = ptY (kPt k) ∧ pubN k = ptN (kPt k) := by
  unfold pubX pubY pubN
  rw [if_pos h, if_pos h, if_pos h]
  exact ⟨rfl, rfl, rfl⟩
theorem kPt_N {k : BitVec 256} (h : fitK k = true) : ptN (kPt k) = false := by
  cases hp : kPt k with
  | O => exact absurd hp (kPt_ne h)
  | A x y => rfl
theorem pt_ne_neg {k : BitVec 256} (h : fitK k = true) : (ptY (kPt k) == ptY (kPt k).neg) = false := by
  rw [beq_eq_false_iff_ne]
  intro e
  have hk := kPt_on k
  have h2 : kPt k = (kPt k).neg := by
    conv => lhs; rw [← ptOf_pt (kPt k)]
    conv => rhs; rw [← ptOf_pt (kPt k).neg]
    rw [ptX_neg, ptN_neg, e]
  refine kPt_ne h (Pt.no_two cuP hk ?_)
  conv => lhs; rw [h2]
  rw [← h2]
  conv => lhs; arg 2; rw [h2]
  exact Pt.add_neg cuP hk
theorem keySides_pure (avs : List AV) (h : Fits [argU] avs) : Pure Try.prog 3 avs (.bool true) := by
  obtain ⟨_, _, ⟨k, rfl⟩, rfl, rfl⟩ := h
  refine Pure.by_tree mixed _ 100 _ _ (kd_tree k) (T.yes_ok ?_)
  rw [ofLimbs0]
  cases hf : fitK k with
  | false =>
    have e1 : pubX k = 0#256 := by unfold pubX; rw [hf]; rfl
    have e2 : pubY k = 0#256 := by unfold pubY; rw [hf]; rfl
    have e3 : pubN k = false := by unfold pubN; rw [hf]; rfl
    rw [pubE_no hf, e1, e2, e3]
    simp [T.yes]
  | true =>
    have hs := side_fit hf
    have hpt := side_ptj hf (side_nat hf)
    generalize nU - k = j at *
    obtain ⟨e1, e2, e3⟩ := pub_yes hf
    obtain ⟨g1, g2, g3⟩ := pub_yes hs
    rw [pubE_yes hf, pubE_yes hs, e1, e2, e3, g1, g2, g3, hpt, ptX_neg, ptN_neg, kPt_N hf, pt_ne_neg hf]
    have ho : okP (ptX (kPt k)) (ptY (kPt k)) false = true := by
      have := okP_pt (kPt_on k)
      rw [kPt_N hf] at this; exact this
    have hr : rcvnY (ptY (kPt k)) false = ptY (kPt k).neg := by
      rw [ptY_neg]; rfl
    rw [ho, hr]
    simp [T.yes, ltP_ptY]
theorem keySides_walk : Walk Try.prog 3 Try.f3.params.toList := by
  rw [Try.params3]
  exact Walk.of fi_trucelaw07_KeySides rfl [argU] keySides_pure

set_option maxRecDepth 100000 in
theorem keySides_lifted (os : Os) (started : os.Started) (H : Type) (enc : TypeId × Value → H) :
    ReturnsInHanded {} Try.checked os 3 .any (Rows.keySidesSpec.pre6 enc Try.prog Try.f3 Rows.keySidesRow.domain false) (Rows.keySidesSpec.post enc Try.prog Try.f3 false true false false) :=
  lifted_of (s := Rows.keySidesSpec) 3 Try.f3 4 Try.underlying4 (by kernel_rfl) rfl Try.func3 (by kernel_rfl)
      (fun _ ds hl => by
        rw [Try.params3] at hl
        match ds, hl with
        | [_], _ => rfl) (by kernel_rfl) keySides_walk os started H enc
      (ChangeSpec.witness6 (enc := enc) (C := Try.checked) false ⟨#[], #[zeroU], []⟩ 8 (by kernel_rfl) (by kernel_rfl) (by kernel_rfl) (by kernel_rfl))

theorem keySides_holds : Rows.KeySidesSaid :=
  OpenClaim.holds_of_wide 3 Try.f3 rfl rfl rfl rfl rfl rfl rfl ⟨rfl, rfl, rfl, rfl, rfl⟩ rfl rfl rfl rfl rfl (by kernel_rfl) Try.func3 keySides_closed
    (of_decide_eq_true (by kernel_rfl)) (by unfold Func.isWrapper; first | (rw [if_pos (by decide +kernel)]; kernel_rfl) | (rw [if_neg (by decide +kernel)]; exact ⟨rfl, rfl⟩))
    (fun os started H enc _ => keySides_lifted os started H enc)
#print axioms keySides_holds

end Go.Proofs.Ytglcjmnkhmdlhaa
