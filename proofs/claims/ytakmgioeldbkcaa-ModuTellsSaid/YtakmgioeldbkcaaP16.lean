/- ModuTells: for every three numbers the call returns true, nothing that was there turns; each argument reads behind the call as it read before. No conditions. -/
import Derived.Test.YtakmgioeldbkcaaK8
import Derived.Test.YtakmgioeldbkcaaXR
import Derived.Test.YtakmgioeldbkcaaQ16
namespace Go.Proofs.Ytakmgioeldbkcaa
open Go Go.RowKit Go.ChangeShapes

theorem moduTells_tree (a b m : BitVec 256) : (callT (lawX03) (execT (lawX03) 100) 24 [.u a, .u b, .u m] [] [] 0 []).map CR.v =
    (.ite ((addm a b m) == (addm a b m))
     (.ite ((mulm a b m) == (mulm a b m))
      (.ite ((expU a b) == (expU a b))
       (.ite ((powU a b m) == (powU a b m))
        (.ite ((invX a m) == (invX a m))
         (.ite ((invOk a m) == (invOk a m))
          (.leaf (.bool true))
          (.leaf (.bool false)))
         (.leaf (.bool false)))
        (.leaf (.bool false)))
       (.leaf (.bool false)))
      (.leaf (.bool false)))
     (.leaf (.bool false))) := by kernel_rfl

theorem moduTells_pure (avs : List AV) (h : Fits [argU, argU, argU] avs) : Pure Try.prog 24 avs (.bool true) := by
  obtain ⟨_, _, ⟨a, rfl⟩, ⟨_, _, ⟨b, rfl⟩, ⟨_, _, ⟨m, rfl⟩, rfl, rfl⟩, rfl⟩, rfl⟩ := h
  refine Pure.by_tree mixed _ 100 _ _ (moduTells_tree a b m) (T.yes_ok ?_)
  simp [T.yes]

theorem moduTells_walk : Walk Try.prog 24 Try.f24.params.toList := by
  rw [Try.params24]
  exact Walk.of fi_trucelaw03_ModuTells rfl [argU, argU, argU] moduTells_pure

set_option maxRecDepth 100000 in
theorem moduTells_lifted (os : Os) (started : os.Started) (H : Type) (enc : TypeId × Value → H) :
    ReturnsInHanded {} Try.checked os 24 .any (Rows.moduTellsSpec.pre6 enc Try.prog Try.f24 Rows.moduTellsRow.domain false) (Rows.moduTellsSpec.post enc Try.prog Try.f24 false true false false) :=
  lifted_of (s := Rows.moduTellsSpec) 24 Try.f24 4 Try.underlying4 (by kernel_rfl) rfl Try.func24 (by kernel_rfl)
      (fun _ ds hl => by
        rw [Try.params24] at hl
        match ds, hl with
        | [_, _, _], _ => rfl) (by kernel_rfl) moduTells_walk os started H enc
      (ChangeSpec.witness6 (enc := enc) (C := Try.checked) false ⟨#[], #[zeroU, zeroU, zeroU], []⟩ 8 (by kernel_rfl) (by kernel_rfl) (by kernel_rfl) (by kernel_rfl))

theorem moduTells_holds : Rows.ModuTellsSaid :=
  OpenClaim.holds_of_wide 24 Try.f24 rfl rfl rfl rfl rfl rfl rfl ⟨rfl, rfl, rfl, rfl, rfl⟩ rfl rfl rfl rfl rfl (by kernel_rfl) Try.func24 moduTells_closed
    (of_decide_eq_true (by kernel_rfl)) (by unfold Func.isWrapper; first | (rw [if_pos (by decide +kernel)]; kernel_rfl) | (rw [if_neg (by decide +kernel)]; exact ⟨rfl, rfl⟩))
    (fun os started H enc _ => moduTells_lifted os started H enc)
#print axioms moduTells_holds

end Go.Proofs.Ytakmgioeldbkcaa
