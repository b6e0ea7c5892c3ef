/- ModuSpreads: for every four numbers the call returns true, nothing that was there turns; each argument reads behind the call as it read before. No conditions. -/
import Derived.Test.YtakmgioeldbkcaaK8
import Derived.Test.YtakmgioeldbkcaaXR
import Derived.Test.YtakmgioeldbkcaaQ19
namespace Go.Proofs.Ytakmgioeldbkcaa
open Go Go.RowKit Go.ChangeShapes

theorem moduSpreads_tree (a b c m : BitVec 256) : (callT (lawX03) (execT (lawX03) 100) 23 [.u a, .u b, .u c, .u m] [] [] 0 []).map CR.v =
    (.ite ((mulm a (addm b c m) m) == (addm (mulm a b m) (mulm a c m) m))
     (.ite ((mulm a b m) == (mulm b a m))
      (.ite ((addm a b m) == (addm b a m))
       (.need true
       (.ite (m == (ofLimbs (0 : Int) (0 : Int) (0 : Int) (0 : Int)))
        (.ite ((mulm a (addm b c m) m) == m)
         (.leaf (.bool true))
         (.ite (decide ((ucmp (mulm a (addm b c m) m) m) < (0 : Int)))
          (.leaf (.bool true))
          (.leaf (.bool false))))
        (.ite (decide ((ucmp (mulm a (addm b c m) m) m) < (0 : Int)))
         (.leaf (.bool true))
         (.leaf (.bool false)))))
       (.leaf (.bool false)))
      (.leaf (.bool false)))
     (.leaf (.bool false))) := by kernel_rfl

theorem moduSpreads_pure (avs : List AV) (h : Fits [argU, argU, argU, argU] avs) : Pure Try.prog 23 avs (.bool true) := by
  obtain ⟨_, _, ⟨a, rfl⟩, ⟨_, _, ⟨b, rfl⟩, ⟨_, _, ⟨c, rfl⟩, ⟨_, _, ⟨m, rfl⟩, rfl, rfl⟩, rfl⟩, rfl⟩, rfl⟩ := h
  refine Pure.by_tree mixed _ 100 _ _ (moduSpreads_tree a b c m) (T.yes_ok ?_)
  rw [ucmp_neg, limbsZero, spreads, mulm_comm b a, addm_comm b a]
  by_cases hm : m = 0#256
  · have h1 : addm (mulm a b m) (mulm a c m) m = m := by rw [← spreads]; exact mulm_zero hm
    rw [h1]
    simp [T.yes, hm]
  · have h1 : (addm (mulm a b m) (mulm a c m) m).toNat < m.toNat := by rw [← spreads]; exact mulm_lt' hm
    simp [T.yes, h1, hm]

theorem moduSpreads_walk : Walk Try.prog 23 Try.f23.params.toList := by
  rw [Try.params23]
  exact Walk.of fi_trucelaw03_ModuSpreads rfl [argU, argU, argU, argU] moduSpreads_pure

set_option maxRecDepth 100000 in
theorem moduSpreads_lifted (os : Os) (started : os.Started) (H : Type) (enc : TypeId × Value → H) :
    ReturnsInHanded {} Try.checked os 23 .any (Rows.moduSpreadsSpec.pre6 enc Try.prog Try.f23 Rows.moduSpreadsRow.domain false) (Rows.moduSpreadsSpec.post enc Try.prog Try.f23 false true false false) :=
  lifted_of (s := Rows.moduSpreadsSpec) 23 Try.f23 4 Try.underlying4 (by kernel_rfl) rfl Try.func23 (by kernel_rfl)
      (fun _ ds hl => by
        rw [Try.params23] at hl
        match ds, hl with
        | [_, _, _, _], _ => rfl) (by kernel_rfl) moduSpreads_walk os started H enc
      (ChangeSpec.witness6 (enc := enc) (C := Try.checked) false ⟨#[], #[zeroU, zeroU, zeroU, zeroU], []⟩ 8 (by kernel_rfl) (by kernel_rfl) (by kernel_rfl) (by kernel_rfl))

theorem moduSpreads_holds : Rows.ModuSpreadsSaid :=
  OpenClaim.holds_of_wide 23 Try.f23 rfl rfl rfl rfl rfl rfl rfl ⟨rfl, rfl, rfl, rfl, rfl⟩ rfl rfl rfl rfl rfl (by kernel_rfl) Try.func23 moduSpreads_closed
    (of_decide_eq_true (by kernel_rfl)) (by unfold Func.isWrapper; first | (rw [if_pos (by decide +kernel)]; kernel_rfl) | (rw [if_neg (by decide +kernel)]; exact ⟨rfl, rfl⟩))
    (fun os started H enc _ => moduSpreads_lifted os started H enc)
#print axioms moduSpreads_holds

end Go.Proofs.Ytakmgioeldbkcaa
