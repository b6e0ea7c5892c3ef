/- SignOrder: for every two numbers the call returns true, nothing that was there turns; each argument reads behind the call as it read before. No conditions. -/
import Derived.Test.YtakmgioeldbkcaaK9
import Derived.Test.YtakmgioeldbkcaaXR
import Derived.Test.YtakmgioeldbkcaaQ23
namespace Go.Proofs.Ytakmgioeldbkcaa
open Go Go.RowKit Go.ChangeShapes

theorem signOrder_tree (a b : BitVec 256) : (callT (lawX04) (execT (lawX04) 100) 18 [.u a, .u b] [] [] 0 []).map CR.v =
    (.ite (slessU a b)
     (.ite (slessU b a)
      (.ite (a == b)
       (.leaf (.bool false))
       (.leaf (.bool false)))
      (.ite (a == b)
       (.leaf (.bool false))
       (.ite ((ishr .u64 (limb a 3) (63 : Int)) == (ishr .u64 (limb b 3) (63 : Int)))
        (.leaf (.bool true))
        (.ite ((slessU a b) == ((ishr .u64 (limb a 3) (63 : Int)) == (1 : Int)))
         (.leaf (.bool true))
         (.leaf (.bool false))))))
     (.ite (slessU b a)
      (.ite (a == b)
       (.leaf (.bool false))
       (.ite ((ishr .u64 (limb a 3) (63 : Int)) == (ishr .u64 (limb b 3) (63 : Int)))
        (.leaf (.bool true))
        (.ite ((slessU a b) == ((ishr .u64 (limb a 3) (63 : Int)) == (1 : Int)))
         (.leaf (.bool true))
         (.leaf (.bool false)))))
      (.ite (a == b)
       (.ite ((ishr .u64 (limb a 3) (63 : Int)) == (ishr .u64 (limb b 3) (63 : Int)))
        (.leaf (.bool true))
        (.ite ((slessU a b) == ((ishr .u64 (limb a 3) (63 : Int)) == (1 : Int)))
         (.leaf (.bool true))
         (.leaf (.bool false))))
       (.leaf (.bool false))))) := by kernel_rfl

theorem signOrder_pure (avs : List AV) (h : Fits [argU, argU] avs) : Pure Try.prog 18 avs (.bool true) := by
  obtain ⟨_, _, ⟨a, rfl⟩, ⟨_, _, ⟨b, rfl⟩, rfl, rfl⟩, rfl⟩ := h
  refine Pure.by_tree mixed _ 100 _ _ (signOrder_tree a b) (T.yes_ok ?_)
  rw [shr_sg a]
  have hs : (ishr .u64 (limb a 3) (63 : Int) == ishr .u64 (limb b 3) (63 : Int)) = (sg a == sg b) := by
    rw [limb_top, limb_top, ishr_63, ishr_63]
    unfold sg
    have ha := a.isLt
    have hb := b.isLt
    rw [Bool.eq_iff_iff, beq_iff_eq, beq_iff_eq, decide_eq_decide]
    omega
  rw [hs]
  have h3 : slessU a b = if (!(sg a == sg b)) = true then sg a else decide (a.toNat < b.toNat) := skey_lt a b
  rcases Nat.lt_trichotomy (skey a) (skey b) with hk | hk | hk
  · have h1 : slessU a b = true := decide_eq_true hk
    have h2 : slessU b a = false := decide_eq_false (by omega)
    have hne : a ≠ b := by rintro rfl; omega
    rw [h1] at h3 ⊢
    rw [h2]
    cases ha : sg a <;> cases hb : sg b <;> simp [ha, hb] at h3 <;> simp [T.yes, hne]
  · have := skey_inj hk
    subst this
    have h1 : slessU a a = false := decide_eq_false (by omega)
    rw [h1]
    simp [T.yes]
  · have h1 : slessU a b = false := decide_eq_false (by omega)
    have h2 : slessU b a = true := decide_eq_true hk
    have hne : a ≠ b := by rintro rfl; omega
    rw [h1] at h3 ⊢
    rw [h2]
    cases ha : sg a <;> cases hb : sg b <;> simp [ha, hb] at h3 <;> simp [T.yes, hne]

theorem signOrder_walk : Walk Try.prog 18 Try.f18.params.toList := by
  rw [Try.params18]
  exact Walk.of fi_trucelaw04_SignOrder rfl [argU, argU] signOrder_pure

set_option maxRecDepth 100000 in
theorem signOrder_lifted (os : Os) (started : os.Started) (H : Type) (enc : TypeId × Value → H) :
    ReturnsInHanded {} Try.checked os 18 .any (Rows.signOrderSpec.pre6 enc Try.prog Try.f18 Rows.signOrderRow.domain false) (Rows.signOrderSpec.post enc Try.prog Try.f18 false true false false) :=
  lifted_of (s := Rows.signOrderSpec) 18 Try.f18 4 Try.underlying4 (by kernel_rfl) rfl Try.func18 (by kernel_rfl)
      (fun _ ds hl => by
        rw [Try.params18] at hl
        match ds, hl with
        | [_, _], _ => rfl) (by kernel_rfl) signOrder_walk os started H enc
      (ChangeSpec.witness6 (enc := enc) (C := Try.checked) false ⟨#[], #[zeroU, zeroU], []⟩ 8 (by kernel_rfl) (by kernel_rfl) (by kernel_rfl) (by kernel_rfl))

theorem signOrder_holds : Rows.SignOrderSaid :=
  OpenClaim.holds_of_wide 18 Try.f18 rfl rfl rfl rfl rfl rfl rfl ⟨rfl, rfl, rfl, rfl, rfl⟩ rfl rfl rfl rfl rfl (by kernel_rfl) Try.func18 signOrder_closed
    (of_decide_eq_true (by kernel_rfl)) (by unfold Func.isWrapper; first | (rw [if_pos (by decide +kernel)]; kernel_rfl) | (rw [if_neg (by decide +kernel)]; exact ⟨rfl, rfl⟩))
    (fun os started H enc _ => signOrder_lifted os started H enc)
#print axioms signOrder_holds

end Go.Proofs.Ytakmgioeldbkcaa
