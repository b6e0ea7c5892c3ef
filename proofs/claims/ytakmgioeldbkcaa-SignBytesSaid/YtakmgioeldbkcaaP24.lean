/- SignBytes: for every number and byte the call returns true, nothing that was there turns; each argument reads behind the call as it read before. No conditions. -/
import Derived.Test.YtakmgioeldbkcaaK9
import Derived.Test.YtakmgioeldbkcaaXR
import Derived.Test.YtakmgioeldbkcaaQ24
namespace Go.Proofs.Ytakmgioeldbkcaa
open Go Go.RowKit Go.ChangeShapes

theorem signBytes_tree (a : BitVec 256) (k : Nat) : (callT (sblX a k) (execT (sblX a k) 100) 20 [.u a, .int .u8 (k : Int)] [] [] 0 []).map CR.v =
    (.need (((k : Nat) : Int) == ((k : Nat) : Int))
    (.need true
    (.need (decide ((ubytes a) = (ubytes a)))
    (.need true
    (.need (a == a)
    (.need true
    (.need ((((inR (IntKind.wrap .u64 ((k : Nat) : Int))) && true) && true) && true)
    (.need ((((inR (IntKind.wrap .u64 ((k : Nat) : Int))) && true) && true) && true)
    (.ite ((sextU (ofLimbs (IntKind.wrap .u64 ((k : Nat) : Int)) (0 : Int) (0 : Int) (0 : Int)) (sextU (ofLimbs (IntKind.wrap .u64 ((k : Nat) : Int)) (0 : Int) (0 : Int) (0 : Int)) a)) == (sextU (ofLimbs (IntKind.wrap .u64 ((k : Nat) : Int)) (0 : Int) (0 : Int) (0 : Int)) a))
     (.ite (decide (((k : Nat) : Int) > (30 : Int)))
      (.ite ((sextU (ofLimbs (IntKind.wrap .u64 ((k : Nat) : Int)) (0 : Int) (0 : Int) (0 : Int)) a) == a)
       (.leaf (.bool true))
       (.ite (decide (((k : Nat) : Int) ≤ (30 : Int)))
        (.need (inR (IntKind.wrap .u64 ((248 : Int) - (IntKind.wrap .u64 ((8 : Int) * (IntKind.wrap .u64 ((k : Nat) : Int)))))))
        (.need (inR (IntKind.wrap .u64 ((248 : Int) - (IntKind.wrap .u64 ((8 : Int) * (IntKind.wrap .u64 ((k : Nat) : Int)))))))
        (.ite (((sextU (ofLimbs (IntKind.wrap .u64 ((k : Nat) : Int)) (0 : Int) (0 : Int) (0 : Int)) a) <<< (Int.toNat (IntKind.wrap .u64 ((248 : Int) - (IntKind.wrap .u64 ((8 : Int) * (IntKind.wrap .u64 ((k : Nat) : Int)))))))) == (a <<< (Int.toNat (IntKind.wrap .u64 ((248 : Int) - (IntKind.wrap .u64 ((8 : Int) * (IntKind.wrap .u64 ((k : Nat) : Int)))))))))
         (.leaf (.bool true))
         (.leaf (.bool false)))))
        (.leaf (.bool false))))
      (.ite (decide (((k : Nat) : Int) ≤ (30 : Int)))
       (.need (inR (IntKind.wrap .u64 ((248 : Int) - (IntKind.wrap .u64 ((8 : Int) * (IntKind.wrap .u64 ((k : Nat) : Int)))))))
       (.need (inR (IntKind.wrap .u64 ((248 : Int) - (IntKind.wrap .u64 ((8 : Int) * (IntKind.wrap .u64 ((k : Nat) : Int)))))))
       (.ite (((sextU (ofLimbs (IntKind.wrap .u64 ((k : Nat) : Int)) (0 : Int) (0 : Int) (0 : Int)) a) <<< (Int.toNat (IntKind.wrap .u64 ((248 : Int) - (IntKind.wrap .u64 ((8 : Int) * (IntKind.wrap .u64 ((k : Nat) : Int)))))))) == (a <<< (Int.toNat (IntKind.wrap .u64 ((248 : Int) - (IntKind.wrap .u64 ((8 : Int) * (IntKind.wrap .u64 ((k : Nat) : Int)))))))))
        (.leaf (.bool true))
        (.leaf (.bool false)))))
       (.leaf (.bool false))))
     (.leaf (.bool false))))))))))) := by kernel_rfl

noncomputable def argU8 : Arg Try.prog := Arg.nk .u8 256 wf_u8 5 Try.underlying5
theorem signBytes_pure (avs : List AV) (h : Fits [argU, argU8] avs) : Pure Try.prog 20 avs (.bool true) := by
  obtain ⟨_, _, ⟨a, rfl⟩, ⟨_, _, ⟨k, rfl, hk⟩, rfl, rfl⟩, rfl⟩ := h
  refine Pure.by_tree mixed _ 100 _ _ (signBytes_tree a k) (T.yes_ok ?_)
  have w0 : IntKind.wrap .u64 ((8 : Int) * (k : Int)) = ((8 * k : Nat) : Int) := wrap_mul (m := 8) (n := k) (by omega)
  rw [wrap_id (by omega), sext_again, w0, inR_limb (by omega)]
  have hu := oneLimb (n := k) (by omega)
  by_cases h30 : k ≤ 30
  · have w1 : IntKind.wrap .u64 ((248 : Int) - ((8 * k : Nat) : Int)) = ((248 - 8 * k : Nat) : Int) := wrap_sub_u64 (a := 248) (by omega) (by omega)
    have e : sextU (ofLimbs ((k : Nat) : Int) 0 0 0) a <<< (248 - 8 * k) = a <<< (248 - 8 * k) := by
      unfold sextU
      rw [hu, if_pos (by omega), ext_shl]
    rw [w1, toNat_c, e, inR_limb (by omega)]
    have g1 : ¬ ((k : Int) > 30) := by omega
    have g2 : (k : Int) ≤ 30 := by omega
    simp [T.yes, g1, g2]
  · have e : sextU (ofLimbs ((k : Nat) : Int) 0 0 0) a = a := by
      unfold sextU
      rw [hu, if_neg (by omega)]
    rw [e]
    have g1 : (k : Int) > 30 := by omega
    simp [T.yes, g1]

theorem signBytes_walk : Walk Try.prog 20 Try.f20.params.toList := by
  rw [Try.params20]
  exact Walk.of fi_trucelaw04_SignBytes rfl [argU, argU8] signBytes_pure

set_option maxRecDepth 100000 in
theorem signBytes_lifted (os : Os) (started : os.Started) (H : Type) (enc : TypeId × Value → H) :
    ReturnsInHanded {} Try.checked os 20 .any (Rows.signBytesSpec.pre6 enc Try.prog Try.f20 Rows.signBytesRow.domain false) (Rows.signBytesSpec.post enc Try.prog Try.f20 false true false false) :=
  lifted_of (s := Rows.signBytesSpec) 20 Try.f20 4 Try.underlying4 (by kernel_rfl) rfl Try.func20 (by kernel_rfl)
      (fun _ ds hl => by
        rw [Try.params20] at hl
        match ds, hl with
        | [_, _], _ => rfl) (by kernel_rfl) signBytes_walk os started H enc
      (ChangeSpec.witness6 (enc := enc) (C := Try.checked) false ⟨#[], #[zeroU, .int .u8 0], []⟩ 8 (by kernel_rfl) (by kernel_rfl) (by kernel_rfl) (by kernel_rfl))

theorem signBytes_holds : Rows.SignBytesSaid :=
  OpenClaim.holds_of_wide 20 Try.f20 rfl rfl rfl rfl rfl rfl rfl ⟨rfl, rfl, rfl, rfl, rfl⟩ rfl rfl rfl rfl rfl (by kernel_rfl) Try.func20 signBytes_closed
    (of_decide_eq_true (by kernel_rfl)) (by unfold Func.isWrapper; first | (rw [if_pos (by decide +kernel)]; kernel_rfl) | (rw [if_neg (by decide +kernel)]; exact ⟨rfl, rfl⟩))
    (fun os started H enc _ => signBytes_lifted os started H enc)
#print axioms signBytes_holds

end Go.Proofs.Ytakmgioeldbkcaa
