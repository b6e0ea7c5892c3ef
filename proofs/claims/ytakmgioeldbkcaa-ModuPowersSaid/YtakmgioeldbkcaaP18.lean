/- ModuPowers: for every four numbers the call returns true, nothing that was there turns; each argument reads behind the call as it read before. No conditions. -/
import Derived.Test.YtakmgioeldbkcaaK8
import Derived.Test.YtakmgioeldbkcaaXR
import Derived.Test.YtakmgioeldbkcaaQ18
namespace Go.Proofs.Ytakmgioeldbkcaa
open Go Go.RowKit Go.ChangeShapes

theorem moduPowers_tree (a m : BitVec 256) (i k : Nat) : (callT (lawX03) (execT (lawX03) 100) 25 [.u a, .u m, .int .u32 (i : Int), .int .u32 (k : Int)] [] [] 0 []).map CR.v =
    (.need ((((inR (IntKind.wrap .u64 ((i : Nat) : Int))) && true) && true) && true)
    (.need ((((inR (IntKind.wrap .u64 ((k : Nat) : Int))) && true) && true) && true)
    (.need ((((inR (IntKind.wrap .u64 ((i : Nat) : Int))) && true) && true) && true)
    (.need ((((inR (IntKind.wrap .u64 ((k : Nat) : Int))) && true) && true) && true)
    (.need ((((inR (IntKind.wrap .u64 ((IntKind.wrap .u64 ((i : Nat) : Int)) + (IntKind.wrap .u64 ((k : Nat) : Int))))) && true) && true) && true)
    (.ite ((expU a (ofLimbs (IntKind.wrap .u64 ((IntKind.wrap .u64 ((i : Nat) : Int)) + (IntKind.wrap .u64 ((k : Nat) : Int)))) (0 : Int) (0 : Int) (0 : Int))) == ((expU a (ofLimbs (IntKind.wrap .u64 ((i : Nat) : Int)) (0 : Int) (0 : Int) (0 : Int))) * (expU a (ofLimbs (IntKind.wrap .u64 ((k : Nat) : Int)) (0 : Int) (0 : Int) (0 : Int)))))
     (.need ((((inR (IntKind.wrap .u64 ((IntKind.wrap .u64 ((i : Nat) : Int)) + (IntKind.wrap .u64 ((k : Nat) : Int))))) && true) && true) && true)
     (.ite ((powU a (ofLimbs (IntKind.wrap .u64 ((IntKind.wrap .u64 ((i : Nat) : Int)) + (IntKind.wrap .u64 ((k : Nat) : Int)))) (0 : Int) (0 : Int) (0 : Int)) m) == (restU (wideHi (powU a (ofLimbs (IntKind.wrap .u64 ((i : Nat) : Int)) (0 : Int) (0 : Int) (0 : Int)) m) (powU a (ofLimbs (IntKind.wrap .u64 ((k : Nat) : Int)) (0 : Int) (0 : Int) (0 : Int)) m)) ((powU a (ofLimbs (IntKind.wrap .u64 ((i : Nat) : Int)) (0 : Int) (0 : Int) (0 : Int)) m) * (powU a (ofLimbs (IntKind.wrap .u64 ((k : Nat) : Int)) (0 : Int) (0 : Int) (0 : Int)) m)) m))
      (.leaf (.bool true))
      (.leaf (.bool false))))
     (.leaf (.bool false)))))))) := by kernel_rfl

theorem moduPowers_pure (avs : List AV) (h : Fits [argU, argU, argU32, argU32] avs) : Pure Try.prog 25 avs (.bool true) := by
  obtain ⟨_, _, ⟨a, rfl⟩, ⟨_, _, ⟨m, rfl⟩, ⟨_, _, ⟨i, rfl, hi⟩, ⟨_, _, ⟨k, rfl, hk⟩, rfl, rfl⟩, rfl⟩, rfl⟩, rfl⟩ := h
  refine Pure.by_tree mixed _ 100 _ _ (moduPowers_tree a m i k) (T.yes_ok ?_)
  rw [wrap_id (n := i) (by omega), wrap_id (n := k) (by omega), wrap_add (by omega)]
  have h1 : (ofLimbs ((i + k : Nat) : Int) 0 0 0).toNat = (ofLimbs ((i : Nat) : Int) 0 0 0).toNat + (ofLimbs ((k : Nat) : Int) 0 0 0).toNat := by
    rw [oneLimb (by omega), oneLimb (by omega), oneLimb (by omega)]
  rw [expU_add h1, powU_add h1]
  have i1 : inR ((i : Nat) : Int) = true := inR_limb (by omega)
  have i2 : inR ((k : Nat) : Int) = true := inR_limb (by omega)
  have i3 : inR ((i + k : Nat) : Int) = true := inR_limb (by omega)
  rw [i1, i2, i3]
  simp [T.yes]

theorem moduPowers_walk : Walk Try.prog 25 Try.f25.params.toList := by
  rw [Try.params25]
  exact Walk.of fi_trucelaw03_ModuPowers rfl [argU, argU, argU32, argU32] moduPowers_pure

set_option maxRecDepth 100000 in
theorem moduPowers_lifted (os : Os) (started : os.Started) (H : Type) (enc : TypeId × Value → H) :
    ReturnsInHanded {} Try.checked os 25 .any (Rows.moduPowersSpec.pre6 enc Try.prog Try.f25 Rows.moduPowersRow.domain false) (Rows.moduPowersSpec.post enc Try.prog Try.f25 false true false false) :=
  lifted_of (s := Rows.moduPowersSpec) 25 Try.f25 4 Try.underlying4 (by kernel_rfl) rfl Try.func25 (by kernel_rfl)
      (fun _ ds hl => by
        rw [Try.params25] at hl
        match ds, hl with
        | [_, _, _, _], _ => rfl) (by kernel_rfl) moduPowers_walk os started H enc
      (ChangeSpec.witness6 (enc := enc) (C := Try.checked) false ⟨#[], #[zeroU, zeroU, .int .u32 0, .int .u32 0], []⟩ 8 (by kernel_rfl) (by kernel_rfl) (by kernel_rfl) (by kernel_rfl))

theorem moduPowers_holds : Rows.ModuPowersSaid :=
  OpenClaim.holds_of_wide 25 Try.f25 rfl rfl rfl rfl rfl rfl rfl ⟨rfl, rfl, rfl, rfl, rfl⟩ rfl rfl rfl rfl rfl (by kernel_rfl) Try.func25 moduPowers_closed
    (of_decide_eq_true (by kernel_rfl)) (by unfold Func.isWrapper; first | (rw [if_pos (by decide +kernel)]; kernel_rfl) | (rw [if_neg (by decide +kernel)]; exact ⟨rfl, rfl⟩))
    (fun os started H enc _ => moduPowers_lifted os started H enc)
#print axioms moduPowers_holds

end Go.Proofs.Ytakmgioeldbkcaa
