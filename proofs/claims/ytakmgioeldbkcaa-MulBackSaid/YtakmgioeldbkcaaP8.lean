/- MulBack: for every two numbers the call returns true, nothing that was there turns; each argument reads behind the call as it read before. No conditions. -/
import Derived.Test.YtakmgioeldbkcaaK5
import Derived.Test.YtakmgioeldbkcaaXR
namespace Go.Proofs.Ytakmgioeldbkcaa
open Go Go.RowKit Go.ChangeShapes

theorem mulBack_tree (a b : BitVec 256) : (callT (lawX2b) (execT (lawX2b) 100) 10 [.u a, .u b] [] [] 0 []).map CR.v =
    (.need true
    (.ite (b == (ofLimbs (0 : Int) (0 : Int) (0 : Int) (0 : Int)))
     (.ite ((a / b) == b)
      (.ite ((remU a b) == b)
       (.leaf (.bool true))
       (.leaf (.bool false)))
      (.leaf (.bool false)))
     (.need true
     (.ite ((wideHi (a / b) b) == (ofLimbs (0 : Int) (0 : Int) (0 : Int) (0 : Int)))
      (.ite (!(uover ((a / b) * b) (remU a b)))
       (.ite ((((a / b) * b) + (remU a b)) == a)
        (.ite (decide ((ucmp (remU a b) b) < (0 : Int)))
         (.leaf (.bool true))
         (.leaf (.bool false)))
        (.leaf (.bool false)))
       (.ite false
        (.leaf (.bool true))
        (.leaf (.bool false))))
      (.ite false
       (.ite (decide ((ucmp (remU a b) b) < (0 : Int)))
        (.leaf (.bool true))
        (.leaf (.bool false)))
       (.leaf (.bool false))))))) := by kernel_rfl
theorem limbs_zero : ofLimbs (0 : Int) (0 : Int) (0 : Int) (0 : Int) = 0#256 := by decide
theorem mulBack_law (a b : BitVec 256) (hb : b ≠ 0#256) : wideHi (a / b) b = 0#256 ∧ uover ((a / b) * b) (remU a b) = false ∧ ((a / b) * b) + (remU a b) = a ∧ (remU a b).toNat < b.toNat := by
  have hb0 : b.toNat ≠ 0 := fun h => hb (BitVec.eq_of_toNat_eq (by simpa using h))
  have ha := a.isLt
  have hdm := Nat.div_add_mod a.toNat b.toNat
  have hml := Nat.mod_lt a.toNat (Nat.pos_of_ne_zero hb0)
  rw [Nat.mul_comm] at hdm
  have hr : (remU a b).toNat = a.toNat % b.toNat := by
    unfold remU remD
    rw [if_neg hb0, BitVec.toNat_ofNat, Nat.mod_eq_of_lt (Nat.lt_of_le_of_lt (Nat.mod_le _ _) ha)]
  have hm : ((a / b) * b).toNat = a.toNat / b.toNat * b.toNat := by
    rw [BitVec.toNat_mul, BitVec.toNat_udiv, Nat.mod_eq_of_lt (by omega)]
  refine ⟨?_, ?_, ?_, by rw [hr]; exact hml⟩
  · apply BitVec.eq_of_toNat_eq
    rw [wide_hi_nat, BitVec.toNat_udiv, Nat.div_eq_of_lt (by omega)]; rfl
  · unfold uover
    rw [hm, hr]
    simp; omega
  · apply BitVec.eq_of_toNat_eq
    rw [BitVec.toNat_add, hm, hr, hdm, Nat.mod_eq_of_lt ha]
theorem mulBack_pure (avs : List AV) (h : Fits [argU, argU] avs) : Pure Try.prog 10 avs (.bool true) := by
  obtain ⟨_, _, ⟨a, rfl⟩, ⟨_, _, ⟨b, rfl⟩, rfl, rfl⟩, rfl⟩ := h
  refine Pure.by_tree mixed _ 100 _ _ (mulBack_tree a b) ?_
  rw [limbs_zero]
  refine ⟨rfl, fun hb => ?_, fun hb => ⟨rfl, ?_⟩⟩
  · have hb := eq_of_beq hb
    subst hb
    have h1 : (a / 0#256) = 0#256 := by simp
    have h2 : remU a 0#256 = 0#256 := by unfold remU remD; simp
    rw [h1, h2]
    simp only [T.holds, beq_self_eq_true, true_implies, reduceCtorEq, false_implies, and_true]
    exact (SameV.bool rfl).r
  · have hb : b ≠ 0#256 := fun e => by rw [e] at hb; simp at hb
    obtain ⟨l1, l2, l3, l4⟩ := mulBack_law a b hb
    rw [l1, l2, l3, ucmp_neg, decide_eq_true l4]
    simp only [T.holds, beq_self_eq_true, Bool.not_false, true_implies, reduceCtorEq, false_implies, and_true]
    exact (SameV.bool rfl).r

theorem mulBack_walk : Walk Try.prog 10 Try.f10.params.toList := by
  rw [Try.params10]
  exact Walk.of fi_trucelaw02_MulBack rfl [argU, argU] mulBack_pure

set_option maxRecDepth 100000 in
theorem mulBack_lifted (os : Os) (started : os.Started) (H : Type) (enc : TypeId × Value → H) :
    ReturnsInHanded {} Try.checked os 10 .any (Rows.mulBackSpec.pre6 enc Try.prog Try.f10 Rows.mulBackRow.domain false) (Rows.mulBackSpec.post enc Try.prog Try.f10 false true false false) :=
  lifted_of (s := Rows.mulBackSpec) 10 Try.f10 4 Try.underlying4 (by kernel_rfl) rfl Try.func10 (by kernel_rfl)
      (fun _ ds hl => by
        rw [Try.params10] at hl
        match ds, hl with
        | [_, _], _ => rfl) (by kernel_rfl) mulBack_walk os started H enc
      (ChangeSpec.witness6 (enc := enc) (C := Try.checked) false ⟨#[], #[zeroU, zeroU], []⟩ 8 (by kernel_rfl) (by kernel_rfl) (by kernel_rfl) (by kernel_rfl))

theorem mulBack_closed : joinedFacts Try.prog 10 Try.f10 Rows.mulBackSpec Rows.mulBackRow = true := by kernel_rfl

theorem mulBack_holds : Rows.MulBackSaid :=
  OpenClaim.holds_of_wide 10 Try.f10 rfl rfl rfl rfl rfl rfl rfl ⟨rfl, rfl, rfl, rfl, rfl⟩ rfl rfl rfl rfl rfl (by kernel_rfl) Try.func10 mulBack_closed
    (of_decide_eq_true (by kernel_rfl)) (by unfold Func.isWrapper; first | (rw [if_pos (by decide +kernel)]; kernel_rfl) | (rw [if_neg (by decide +kernel)]; exact ⟨rfl, rfl⟩))
    (fun os started H enc _ => mulBack_lifted os started H enc)
#print axioms mulBack_holds

end Go.Proofs.Ytakmgioeldbkcaa
