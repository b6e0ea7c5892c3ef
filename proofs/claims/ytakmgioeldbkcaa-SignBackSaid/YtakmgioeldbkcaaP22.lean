/- SignBack: for every two numbers the call returns true, nothing that was there turns; each argument reads behind the call as it read before. No conditions. -/
import Derived.Test.YtakmgioeldbkcaaK9
import Derived.Test.YtakmgioeldbkcaaXR
import Derived.Test.YtakmgioeldbkcaaQ22
namespace Go.Proofs.Ytakmgioeldbkcaa
open Go Go.RowKit Go.ChangeShapes

theorem signBack_tree (a b : BitVec 256) : (callT (lawX04) (execT (lawX04) 100) 21 [.u a, .u b] [] [] 0 []).map CR.v =
    (.need true
    (.ite (b == (ofLimbs (0 : Int) (0 : Int) (0 : Int) (0 : Int)))
     (.ite ((a + (- a)) == b)
      (.ite ((sdivQ a b) == b)
       (.ite ((sdivR a b) == b)
        (.leaf (.bool true))
        (.leaf (.bool false)))
       (.leaf (.bool false)))
      (.leaf (.bool false)))
     (.need true
     (.ite ((a + (- a)) == (ofLimbs (0 : Int) (0 : Int) (0 : Int) (0 : Int)))
      (.ite ((((sdivQ a b) * b) + (sdivR a b)) == a)
       (.leaf (.bool true))
       (.leaf (.bool false)))
      (.leaf (.bool false)))))) := by kernel_rfl

theorem signBack_pure (avs : List AV) (h : Fits [argU, argU] avs) : Pure Try.prog 21 avs (.bool true) := by
  obtain ⟨_, _, ⟨a, rfl⟩, ⟨_, _, ⟨b, rfl⟩, rfl, rfl⟩, rfl⟩ := h
  refine Pure.by_tree mixed _ 100 _ _ (signBack_tree a b) (T.yes_ok ?_)
  have hz : a + -a = 0#256 := by rw [← BitVec.sub_eq_add_neg, BitVec.sub_self]
  rw [limbsZero, hz]
  by_cases hb : b = 0#256
  · subst hb
    obtain ⟨h1, h2⟩ := sdiv_zero a
    rw [h1, h2]
    simp [T.yes]
  · rw [sdiv_back hb]
    simp [T.yes, hb]

theorem signBack_walk : Walk Try.prog 21 Try.f21.params.toList := by
  rw [Try.params21]
  exact Walk.of fi_trucelaw04_SignBack rfl [argU, argU] signBack_pure

set_option maxRecDepth 100000 in
theorem signBack_lifted (os : Os) (started : os.Started) (H : Type) (enc : TypeId × Value → H) :
    ReturnsInHanded {} Try.checked os 21 .any (Rows.signBackSpec.pre6 enc Try.prog Try.f21 Rows.signBackRow.domain false) (Rows.signBackSpec.post enc Try.prog Try.f21 false true false false) :=
  lifted_of (s := Rows.signBackSpec) 21 Try.f21 4 Try.underlying4 (by kernel_rfl) rfl Try.func21 (by kernel_rfl)
      (fun _ ds hl => by
        rw [Try.params21] at hl
        match ds, hl with
        | [_, _], _ => rfl) (by kernel_rfl) signBack_walk os started H enc
      (ChangeSpec.witness6 (enc := enc) (C := Try.checked) false ⟨#[], #[zeroU, zeroU], []⟩ 8 (by kernel_rfl) (by kernel_rfl) (by kernel_rfl) (by kernel_rfl))

theorem signBack_holds : Rows.SignBackSaid :=
  OpenClaim.holds_of_wide 21 Try.f21 rfl rfl rfl rfl rfl rfl rfl ⟨rfl, rfl, rfl, rfl, rfl⟩ rfl rfl rfl rfl rfl (by kernel_rfl) Try.func21 signBack_closed
    (of_decide_eq_true (by kernel_rfl)) (by unfold Func.isWrapper; first | (rw [if_pos (by decide +kernel)]; kernel_rfl) | (rw [if_neg (by decide +kernel)]; exact ⟨rfl, rfl⟩))
    (fun os started H enc _ => signBack_lifted os started H enc)
#print axioms signBack_holds

end Go.Proofs.Ytakmgioeldbkcaa
