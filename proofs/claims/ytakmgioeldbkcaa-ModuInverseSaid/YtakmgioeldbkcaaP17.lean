/- ModuInverse: for every two numbers the call returns true, nothing that was there turns; each argument reads behind the call as it read before. No conditions. -/
import Derived.Test.YtakmgioeldbkcaaK8
import Derived.Test.YtakmgioeldbkcaaXR
import Derived.Test.YtakmgioeldbkcaaQ17
namespace Go.Proofs.Ytakmgioeldbkcaa
open Go Go.RowKit Go.ChangeShapes

theorem moduInverse_tree (a m : BitVec 256) : (callT (lawX03) (execT (lawX03) 100) 22 [.u a, .u m] [] [] 0 []).map CR.v =
    (.ite (!(invOk a m))
     (.need true
     (.ite ((invX a m) == (ofLimbs (0 : Int) (0 : Int) (0 : Int) (0 : Int)))
      (.leaf (.bool true))
      (.leaf (.bool false))))
     (.need true
     (.ite ((restU (wideHi a (invX a m)) (a * (invX a m)) m) == (ofLimbs (1 : Int) (0 : Int) (0 : Int) (0 : Int)))
      (.ite (decide ((ucmp (invX a m) m) < (0 : Int)))
       (.ite (invOk (invX a m) m)
        (.ite ((invX (invX a m) m) == (remU a m))
         (.leaf (.bool true))
         (.leaf (.bool false)))
        (.leaf (.bool false)))
       (.leaf (.bool false)))
      (.leaf (.bool false))))) := by kernel_rfl

theorem moduInverse_pure (avs : List AV) (h : Fits [argU, argU] avs) : Pure Try.prog 22 avs (.bool true) := by
  obtain ⟨_, _, ⟨a, rfl⟩, ⟨_, _, ⟨m, rfl⟩, rfl, rfl⟩, rfl⟩ := h
  refine Pure.by_tree mixed _ 100 _ _ (moduInverse_tree a m) (T.yes_ok ?_)
  rw [mulm_eq, limbsZero, limbsOne, ucmp_neg]
  by_cases ho : invOk a m = true
  · obtain ⟨h1, h2, h3⟩ := inv_law ho
    obtain ⟨h4, h5⟩ := inv_back ho
    have h6 : mulm a (invX a m) m = 1#256 := by
      apply BitVec.eq_of_toNat_eq
      rw [mulm_nat, Nat.mul_comm]
      unfold remD
      rw [if_neg (by omega), h2]; rfl
    rw [ho, h4, h5, h6]
    simp [T.yes, h3]
  · have ho : invOk a m = false := by simpa using ho
    have hx : invX a m = 0#256 := by
      by_cases hm : m.toNat ≤ 1
      · exact (inv_small hm).1
      · by_cases hr : (eEnd a m).r0 = 1#256
        · rw [(inv_yes (by omega) hr).2] at ho; simp at ho
        · exact (inv_no (by omega) hr).1
    rw [ho, hx]
    simp [T.yes]

theorem moduInverse_walk : Walk Try.prog 22 Try.f22.params.toList := by
  rw [Try.params22]
  exact Walk.of fi_trucelaw03_ModuInverse rfl [argU, argU] moduInverse_pure

set_option maxRecDepth 100000 in
theorem moduInverse_lifted (os : Os) (started : os.Started) (H : Type) (enc : TypeId × Value → H) :
    ReturnsInHanded {} Try.checked os 22 .any (Rows.moduInverseSpec.pre6 enc Try.prog Try.f22 Rows.moduInverseRow.domain false) (Rows.moduInverseSpec.post enc Try.prog Try.f22 false true false false) :=
  lifted_of (s := Rows.moduInverseSpec) 22 Try.f22 4 Try.underlying4 (by kernel_rfl) rfl Try.func22 (by kernel_rfl)
      (fun _ ds hl => by
        rw [Try.params22] at hl
        match ds, hl with
        | [_, _], _ => rfl) (by kernel_rfl) moduInverse_walk os started H enc
      (ChangeSpec.witness6 (enc := enc) (C := Try.checked) false ⟨#[], #[zeroU, zeroU], []⟩ 8 (by kernel_rfl) (by kernel_rfl) (by kernel_rfl) (by kernel_rfl))

theorem moduInverse_holds : Rows.ModuInverseSaid :=
  OpenClaim.holds_of_wide 22 Try.f22 rfl rfl rfl rfl rfl rfl rfl ⟨rfl, rfl, rfl, rfl, rfl⟩ rfl rfl rfl rfl rfl (by kernel_rfl) Try.func22 moduInverse_closed
    (of_decide_eq_true (by kernel_rfl)) (by unfold Func.isWrapper; first | (rw [if_pos (by decide +kernel)]; kernel_rfl) | (rw [if_neg (by decide +kernel)]; exact ⟨rfl, rfl⟩))
    (fun os started H enc _ => moduInverse_lifted os started H enc)
#print axioms moduInverse_holds

end Go.Proofs.Ytakmgioeldbkcaa
