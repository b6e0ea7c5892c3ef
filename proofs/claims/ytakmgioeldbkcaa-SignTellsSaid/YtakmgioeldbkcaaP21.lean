/- SignTells: for every three numbers the call returns true, nothing that was there turns; each argument reads behind the call as it read before. No conditions. -/
import Derived.Test.YtakmgioeldbkcaaK9
import Derived.Test.YtakmgioeldbkcaaXR
import Derived.Test.YtakmgioeldbkcaaQ21
namespace Go.Proofs.Ytakmgioeldbkcaa
open Go Go.RowKit Go.ChangeShapes

theorem signTells_tree (a b : BitVec 256) (n : Nat) : (callT (lawX04) (execT (lawX04) 100) 19 [.u a, .u b, .int .u64 (n : Int)] [] [] 0 []).map CR.v =
    (.ite ((- a) == (- a))
     (.ite ((sdivQ a b) == (sdivQ a b))
      (.ite ((sdivR a b) == (sdivR a b))
       (.ite ((slessU a b) == (slessU a b))
        (.need (inR ((n : Nat) : Int))
        (.need (inR ((n : Nat) : Int))
        (.ite ((sshrU a (Int.toNat ((n : Nat) : Int))) == (sshrU a (Int.toNat ((n : Nat) : Int))))
         (.ite ((sextU b a) == (sextU b a))
          (.need ((((inR (Int.tmod ((n : Nat) : Int) (40 : Int))) && true) && true) && true)
          (.need ((((inR (Int.tmod ((n : Nat) : Int) (40 : Int))) && true) && true) && true)
          (.ite ((sextU (ofLimbs (Int.tmod ((n : Nat) : Int) (40 : Int)) (0 : Int) (0 : Int) (0 : Int)) a) == (sextU (ofLimbs (Int.tmod ((n : Nat) : Int) (40 : Int)) (0 : Int) (0 : Int) (0 : Int)) a))
           (.ite ((sbyteU b a) == (sbyteU b a))
            (.need ((((inR (Int.tmod ((n : Nat) : Int) (40 : Int))) && true) && true) && true)
            (.need ((((inR (Int.tmod ((n : Nat) : Int) (40 : Int))) && true) && true) && true)
            (.ite ((sbyteU (ofLimbs (Int.tmod ((n : Nat) : Int) (40 : Int)) (0 : Int) (0 : Int) (0 : Int)) a) == (sbyteU (ofLimbs (Int.tmod ((n : Nat) : Int) (40 : Int)) (0 : Int) (0 : Int) (0 : Int)) a))
             (.leaf (.bool true))
             (.leaf (.bool false)))))
            (.leaf (.bool false)))
           (.leaf (.bool false)))))
          (.leaf (.bool false)))
         (.leaf (.bool false)))))
        (.leaf (.bool false)))
       (.leaf (.bool false)))
      (.leaf (.bool false)))
     (.leaf (.bool false))) := by kernel_rfl

noncomputable def argN64 : Arg Try.prog := argN
theorem signTells_pure (avs : List AV) (h : Fits [argU, argU, argN] avs) : Pure Try.prog 19 avs (.bool true) := by
  obtain ⟨_, _, ⟨a, rfl⟩, ⟨_, _, ⟨b, rfl⟩, ⟨_, _, ⟨n, rfl, hn⟩, rfl, rfl⟩, rfl⟩, rfl⟩ := h
  refine Pure.by_tree mixed _ 100 _ _ (signTells_tree a b n) (T.yes_ok ?_)
  have e : Int.tmod (n : Int) 40 = ((n % 40 : Nat) : Int) := by rw [Int.tmod_eq_emod_of_nonneg (by omega)]; omega
  rw [e, inR_limb hn, inR_limb (by omega)]
  simp [T.yes]

theorem signTells_walk : Walk Try.prog 19 Try.f19.params.toList := by
  rw [Try.params19]
  exact Walk.of fi_trucelaw04_SignTells rfl [argU, argU, argN] signTells_pure

set_option maxRecDepth 100000 in
theorem signTells_lifted (os : Os) (started : os.Started) (H : Type) (enc : TypeId × Value → H) :
    ReturnsInHanded {} Try.checked os 19 .any (Rows.signTellsSpec.pre6 enc Try.prog Try.f19 Rows.signTellsRow.domain false) (Rows.signTellsSpec.post enc Try.prog Try.f19 false true false false) :=
  lifted_of (s := Rows.signTellsSpec) 19 Try.f19 4 Try.underlying4 (by kernel_rfl) rfl Try.func19 (by kernel_rfl)
      (fun _ ds hl => by
        rw [Try.params19] at hl
        match ds, hl with
        | [_, _, _], _ => rfl) (by kernel_rfl) signTells_walk os started H enc
      (ChangeSpec.witness6 (enc := enc) (C := Try.checked) false ⟨#[], #[zeroU, zeroU, .int .u64 0], []⟩ 8 (by kernel_rfl) (by kernel_rfl) (by kernel_rfl) (by kernel_rfl))

theorem signTells_holds : Rows.SignTellsSaid :=
  OpenClaim.holds_of_wide 19 Try.f19 rfl rfl rfl rfl rfl rfl rfl ⟨rfl, rfl, rfl, rfl, rfl⟩ rfl rfl rfl rfl rfl (by kernel_rfl) Try.func19 signTells_closed
    (of_decide_eq_true (by kernel_rfl)) (by unfold Func.isWrapper; first | (rw [if_pos (by decide +kernel)]; kernel_rfl) | (rw [if_neg (by decide +kernel)]; exact ⟨rfl, rfl⟩))
    (fun os started H enc _ => signTells_lifted os started H enc)
#print axioms signTells_holds

end Go.Proofs.Ytakmgioeldbkcaa
