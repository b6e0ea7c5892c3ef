/- MulWides: for every two numbers the call returns true, nothing that was there turns; each argument reads behind the call as it read before. No conditions. -/
import Derived.Test.YtakmgioeldbkcaaK5
import Derived.Test.YtakmgioeldbkcaaXR
namespace Go.Proofs.Ytakmgioeldbkcaa
open Go Go.RowKit Go.ChangeShapes

theorem mulWides_tree (a b : BitVec 256) : (callT (lawX2b) (execT (lawX2b) 100) 12 [.u a, .u b] [] [] 0 []).map CR.v =
    (.ite ((wideHi a b) == (wideHi a b))
     (.ite ((a * b) == (a * b))
      (.ite ((a * b) == (a * b))
       (.leaf (.bool true))
       (.leaf (.bool false)))
      (.leaf (.bool false)))
     (.ite false
      (.leaf (.bool true))
      (.leaf (.bool false)))) := by kernel_rfl
theorem mulWides_pure (avs : List AV) (h : Fits [argU, argU] avs) : Pure Try.prog 12 avs (.bool true) := by
  obtain ⟨_, _, ⟨a, rfl⟩, ⟨_, _, ⟨b, rfl⟩, rfl, rfl⟩, rfl⟩ := h
  refine Pure.by_tree mixed _ 100 _ _ (mulWides_tree a b) ?_
  simp only [T.holds, beq_self_eq_true, true_implies, reduceCtorEq, false_implies, and_true]
  exact (SameV.bool rfl).r

theorem mulWides_walk : Walk Try.prog 12 Try.f12.params.toList := by
  rw [Try.params12]
  exact Walk.of fi_trucelaw02_MulWides rfl [argU, argU] mulWides_pure

set_option maxRecDepth 100000 in
theorem mulWides_lifted (os : Os) (started : os.Started) (H : Type) (enc : TypeId × Value → H) :
    ReturnsInHanded {} Try.checked os 12 .any (Rows.mulWidesSpec.pre6 enc Try.prog Try.f12 Rows.mulWidesRow.domain false) (Rows.mulWidesSpec.post enc Try.prog Try.f12 false true false false) :=
  lifted_of (s := Rows.mulWidesSpec) 12 Try.f12 4 Try.underlying4 (by kernel_rfl) rfl Try.func12 (by kernel_rfl)
      (fun _ ds hl => by
        rw [Try.params12] at hl
        match ds, hl with
        | [_, _], _ => rfl) (by kernel_rfl) mulWides_walk os started H enc
      (ChangeSpec.witness6 (enc := enc) (C := Try.checked) false ⟨#[], #[zeroU, zeroU], []⟩ 8 (by kernel_rfl) (by kernel_rfl) (by kernel_rfl) (by kernel_rfl))

theorem mulWides_closed : joinedFacts Try.prog 12 Try.f12 Rows.mulWidesSpec Rows.mulWidesRow = true := by kernel_rfl

theorem mulWides_holds : Rows.MulWidesSaid :=
  OpenClaim.holds_of_wide 12 Try.f12 rfl rfl rfl rfl rfl rfl rfl ⟨rfl, rfl, rfl, rfl, rfl⟩ rfl rfl rfl rfl rfl (by kernel_rfl) Try.func12 mulWides_closed
    (of_decide_eq_true (by kernel_rfl)) (by unfold Func.isWrapper; first | (rw [if_pos (by decide +kernel)]; kernel_rfl) | (rw [if_neg (by decide +kernel)]; exact ⟨rfl, rfl⟩))
    (fun os started H enc _ => mulWides_lifted os started H enc)
#print axioms mulWides_holds

end Go.Proofs.Ytakmgioeldbkcaa
