/- MulDivs: for every three numbers the call returns true, nothing that was there turns; each argument reads behind the call as it read before. No conditions. -/
import Derived.Test.YtakmgioeldbkcaaK6
import Derived.Test.YtakmgioeldbkcaaXR
namespace Go.Proofs.Ytakmgioeldbkcaa
open Go Go.RowKit Go.ChangeShapes

theorem mulDivs_tree (a b c : BitVec 256) : (callT (lawX2d) (execT (lawX2d) 100) 9 [.u a, .u b, .u c] [] [] 0 []).map CR.v =
    (.ite ((a / b) == (a / b))
     (.ite ((remU a b) == (remU a b))
      (.ite ((restU a b c) == (restU a b c))
       (.leaf (.bool true))
       (.leaf (.bool false)))
      (.leaf (.bool false)))
     (.leaf (.bool false))) := by kernel_rfl
theorem mulDivs_pure (avs : List AV) (h : Fits [argU, argU, argU] avs) : Pure Try.prog 9 avs (.bool true) := by
  obtain ⟨_, _, ⟨a, rfl⟩, ⟨_, _, ⟨b, rfl⟩, ⟨_, _, ⟨c, rfl⟩, rfl, rfl⟩, rfl⟩, rfl⟩ := h
  refine Pure.by_tree mixed _ 100 _ _ (mulDivs_tree a b c) ?_
  simp only [T.holds, beq_self_eq_true, true_implies, reduceCtorEq, false_implies, and_true, true_and]
  exact (SameV.bool rfl).r

theorem mulDivs_walk : Walk Try.prog 9 Try.f9.params.toList := by
  rw [Try.params9]
  exact Walk.of fi_trucelaw02_MulDivs rfl [argU, argU, argU] mulDivs_pure

set_option maxRecDepth 100000 in
theorem mulDivs_lifted (os : Os) (started : os.Started) (H : Type) (enc : TypeId × Value → H) :
    ReturnsInHanded {} Try.checked os 9 .any (Rows.mulDivsSpec.pre6 enc Try.prog Try.f9 Rows.mulDivsRow.domain false) (Rows.mulDivsSpec.post enc Try.prog Try.f9 false true false false) :=
  lifted_of (s := Rows.mulDivsSpec) 9 Try.f9 4 Try.underlying4 (by kernel_rfl) rfl Try.func9 (by kernel_rfl)
      (fun _ ds hl => by
        rw [Try.params9] at hl
        match ds, hl with
        | [_, _, _], _ => rfl) (by kernel_rfl) mulDivs_walk os started H enc
      (ChangeSpec.witness6 (enc := enc) (C := Try.checked) false ⟨#[], #[zeroU, zeroU, zeroU], []⟩ 8 (by kernel_rfl) (by kernel_rfl) (by kernel_rfl) (by kernel_rfl))

theorem mulDivs_closed : joinedFacts Try.prog 9 Try.f9 Rows.mulDivsSpec Rows.mulDivsRow = true := by kernel_rfl

theorem mulDivs_holds : Rows.MulDivsSaid :=
  OpenClaim.holds_of_wide 9 Try.f9 rfl rfl rfl rfl rfl rfl rfl ⟨rfl, rfl, rfl, rfl, rfl⟩ rfl rfl rfl rfl rfl (by kernel_rfl) Try.func9 mulDivs_closed
    (of_decide_eq_true (by kernel_rfl)) (by unfold Func.isWrapper; first | (rw [if_pos (by decide +kernel)]; kernel_rfl) | (rw [if_neg (by decide +kernel)]; exact ⟨rfl, rfl⟩))
    (fun os started H enc _ => mulDivs_lifted os started H enc)
#print axioms mulDivs_holds

end Go.Proofs.Ytakmgioeldbkcaa
