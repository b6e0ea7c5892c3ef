/- ModuTwice: for every four numbers the call returns true, nothing that was there turns; each argument reads behind the call as it read before. No conditions. -/
import Derived.Test.YtakmgioeldbkcaaK8
import Derived.Test.YtakmgioeldbkcaaXR
import Derived.Test.YtakmgioeldbkcaaQ20
namespace Go.Proofs.Ytakmgioeldbkcaa
open Go Go.RowKit Go.ChangeShapes

theorem moduTwice_tree (a m : BitVec 256) (i k : Nat) : (callT (lawX03) (execT (lawX03) 100) 26 [.u a, .u m, .int .u16 (i : Int), .int .u16 (k : Int)] [] [] 0 []).map CR.v =
    (.need true
    (.need ((((inR (IntKind.wrap .u64 ((i : Nat) : Int))) && true) && true) && true)
    (.need ((((inR (IntKind.wrap .u64 ((k : Nat) : Int))) && true) && true) && true)
    (.need ((((inR (IntKind.wrap .u64 ((IntKind.wrap .u64 ((i : Nat) : Int)) * (IntKind.wrap .u64 ((k : Nat) : Int))))) && true) && true) && true)
    (.ite ((expU (expU a (ofLimbs (IntKind.wrap .u64 ((i : Nat) : Int)) (0 : Int) (0 : Int) (0 : Int))) (ofLimbs (IntKind.wrap .u64 ((k : Nat) : Int)) (0 : Int) (0 : Int) (0 : Int))) == (expU a (ofLimbs (IntKind.wrap .u64 ((IntKind.wrap .u64 ((i : Nat) : Int)) * (IntKind.wrap .u64 ((k : Nat) : Int)))) (0 : Int) (0 : Int) (0 : Int))))
     (.need ((((inR (IntKind.wrap .u64 ((i : Nat) : Int))) && true) && true) && true)
     (.need ((((inR (IntKind.wrap .u64 ((k : Nat) : Int))) && true) && true) && true)
     (.need ((((inR (IntKind.wrap .u64 ((IntKind.wrap .u64 ((i : Nat) : Int)) * (IntKind.wrap .u64 ((k : Nat) : Int))))) && true) && true) && true)
     (.ite ((powU (powU a (ofLimbs (IntKind.wrap .u64 ((i : Nat) : Int)) (0 : Int) (0 : Int) (0 : Int)) m) (ofLimbs (IntKind.wrap .u64 ((k : Nat) : Int)) (0 : Int) (0 : Int) (0 : Int)) m) == (powU a (ofLimbs (IntKind.wrap .u64 ((IntKind.wrap .u64 ((i : Nat) : Int)) * (IntKind.wrap .u64 ((k : Nat) : Int)))) (0 : Int) (0 : Int) (0 : Int)) m))
      (.need true
      (.need true
      (.ite ((expU a (ofLimbs (0 : Int) (0 : Int) (0 : Int) (0 : Int))) == (ofLimbs (1 : Int) (0 : Int) (0 : Int) (0 : Int)))
       (.need true
       (.ite ((expU a (ofLimbs (1 : Int) (0 : Int) (0 : Int) (0 : Int))) == a)
        (.need true
        (.ite ((powU a (ofLimbs (0 : Int) (0 : Int) (0 : Int) (0 : Int)) m) == (remU (ofLimbs (1 : Int) (0 : Int) (0 : Int) (0 : Int)) m))
         (.need true
         (.ite ((powU a (ofLimbs (1 : Int) (0 : Int) (0 : Int) (0 : Int)) m) == (remU a m))
          (.leaf (.bool true))
          (.leaf (.bool false))))
         (.leaf (.bool false))))
        (.leaf (.bool false))))
       (.leaf (.bool false)))))
      (.leaf (.bool false))))))
     (.leaf (.bool false))))))) := by kernel_rfl

theorem moduTwice_pure (avs : List AV) (h : Fits [argU, argU, argU16, argU16] avs) : Pure Try.prog 26 avs (.bool true) := by
  obtain ⟨_, _, ⟨a, rfl⟩, ⟨_, _, ⟨m, rfl⟩, ⟨_, _, ⟨i, rfl, hi⟩, ⟨_, _, ⟨k, rfl, hk⟩, rfl, rfl⟩, rfl⟩, rfl⟩, rfl⟩ := h
  refine Pure.by_tree mixed _ 100 _ _ (moduTwice_tree a m i k) (T.yes_ok ?_)
  have hik : i * k ≤ 65535 * 65535 := Nat.mul_le_mul (by omega) (by omega)
  rw [wrap_id (n := i) (by omega), wrap_id (n := k) (by omega), wrap_mul (by omega)]
  have h1 : (ofLimbs ((i * k : Nat) : Int) 0 0 0).toNat = (ofLimbs ((i : Nat) : Int) 0 0 0).toNat * (ofLimbs ((k : Nat) : Int) 0 0 0).toNat := by
    rw [oneLimb (by omega), oneLimb (by omega), oneLimb (by omega)]
  rw [expU_mul h1, powU_mul h1, limbsZero, limbsOne, expU_zero, expU_one, powU_zero, powU_one]
  have i1 : inR ((i : Nat) : Int) = true := inR_limb (by omega)
  have i2 : inR ((k : Nat) : Int) = true := inR_limb (by omega)
  have i3 : inR ((i * k : Nat) : Int) = true := inR_limb (by omega)
  rw [i1, i2, i3]
  simp [T.yes]

theorem moduTwice_walk : Walk Try.prog 26 Try.f26.params.toList := by
  rw [Try.params26]
  exact Walk.of fi_trucelaw03_ModuTwice rfl [argU, argU, argU16, argU16] moduTwice_pure

set_option maxRecDepth 100000 in
theorem moduTwice_lifted (os : Os) (started : os.Started) (H : Type) (enc : TypeId × Value → H) :
    ReturnsInHanded {} Try.checked os 26 .any (Rows.moduTwiceSpec.pre6 enc Try.prog Try.f26 Rows.moduTwiceRow.domain false) (Rows.moduTwiceSpec.post enc Try.prog Try.f26 false true false false) :=
  lifted_of (s := Rows.moduTwiceSpec) 26 Try.f26 4 Try.underlying4 (by kernel_rfl) rfl Try.func26 (by kernel_rfl)
      (fun _ ds hl => by
        rw [Try.params26] at hl
        match ds, hl with
        | [_, _, _, _], _ => rfl) (by kernel_rfl) moduTwice_walk os started H enc
      (ChangeSpec.witness6 (enc := enc) (C := Try.checked) false ⟨#[], #[zeroU, zeroU, .int .u16 0, .int .u16 0], []⟩ 8 (by kernel_rfl) (by kernel_rfl) (by kernel_rfl) (by kernel_rfl))

theorem moduTwice_holds : Rows.ModuTwiceSaid :=
  OpenClaim.holds_of_wide 26 Try.f26 rfl rfl rfl rfl rfl rfl rfl ⟨rfl, rfl, rfl, rfl, rfl⟩ rfl rfl rfl rfl rfl (by kernel_rfl) Try.func26 moduTwice_closed
    (of_decide_eq_true (by kernel_rfl)) (by unfold Func.isWrapper; first | (rw [if_pos (by decide +kernel)]; kernel_rfl) | (rw [if_neg (by decide +kernel)]; exact ⟨rfl, rfl⟩))
    (fun os started H enc _ => moduTwice_lifted os started H enc)
#print axioms moduTwice_holds

end Go.Proofs.Ytakmgioeldbkcaa
