/- MulSpreads: for every three numbers the call returns true, nothing that was there turns; each argument reads behind the call as it read before. No conditions. -/
import Derived.Test.YtakmgioeldbkcaaK5
import Derived.Test.YtakmgioeldbkcaaXR
namespace Go.Proofs.Ytakmgioeldbkcaa
open Go Go.RowKit Go.ChangeShapes

theorem mulSpreads_tree (a b c : BitVec 256) : (callT (lawX2b) (execT (lawX2b) 100) 13 [.u a, .u b, .u c] [] [] 0 []).map CR.v =
    (.ite ((a * (b + c)) == ((a * b) + (a * c)))
     (.ite ((wideHi a b) == (wideHi b a))
      (.ite ((a * b) == (b * a))
       (.need true
       (.ite ((restU (wideHi a b) (a * b) a) == (ofLimbs (0 : Int) (0 : Int) (0 : Int) (0 : Int)))
        (.need true
        (.ite ((restU (wideHi a b) (a * b) b) == (ofLimbs (0 : Int) (0 : Int) (0 : Int) (0 : Int)))
         (.need true
         (.ite ((a * (ofLimbs (1 : Int) (0 : Int) (0 : Int) (0 : Int))) == a)
          (.leaf (.bool true))
          (.leaf (.bool false))))
         (.leaf (.bool false))))
        (.ite false
         (.leaf (.bool true))
         (.leaf (.bool false)))))
       (.ite false
        (.need true
        (.ite ((a * (ofLimbs (1 : Int) (0 : Int) (0 : Int) (0 : Int))) == a)
         (.leaf (.bool true))
         (.leaf (.bool false))))
        (.leaf (.bool false))))
      (.ite false
       (.need true
       (.ite ((restU (wideHi a b) (a * b) b) == (ofLimbs (0 : Int) (0 : Int) (0 : Int) (0 : Int)))
        (.need true
        (.ite ((a * (ofLimbs (1 : Int) (0 : Int) (0 : Int) (0 : Int))) == a)
         (.leaf (.bool true))
         (.leaf (.bool false))))
        (.leaf (.bool false))))
       (.ite false
        (.leaf (.bool true))
        (.leaf (.bool false)))))
     (.ite false
      (.need true
      (.ite ((restU (wideHi a b) (a * b) a) == (ofLimbs (0 : Int) (0 : Int) (0 : Int) (0 : Int)))
       (.need true
       (.ite ((restU (wideHi a b) (a * b) b) == (ofLimbs (0 : Int) (0 : Int) (0 : Int) (0 : Int)))
        (.need true
        (.ite ((a * (ofLimbs (1 : Int) (0 : Int) (0 : Int) (0 : Int))) == a)
         (.leaf (.bool true))
         (.leaf (.bool false))))
        (.leaf (.bool false))))
       (.ite false
        (.leaf (.bool true))
        (.leaf (.bool false)))))
      (.ite false
       (.need true
       (.ite ((a * (ofLimbs (1 : Int) (0 : Int) (0 : Int) (0 : Int))) == a)
        (.leaf (.bool true))
        (.leaf (.bool false))))
       (.leaf (.bool false))))) := by kernel_rfl
theorem limbs_zero : ofLimbs (0 : Int) (0 : Int) (0 : Int) (0 : Int) = 0#256 := by decide
theorem limbs_one : ofLimbs (1 : Int) (0 : Int) (0 : Int) (0 : Int) = 1#256 := by decide
theorem wide_comm (a b : BitVec 256) : wideHi a b = wideHi b a := by unfold wideHi; rw [Nat.mul_comm]
theorem rest_factor (a b : BitVec 256) : restU (wideHi a b) (a * b) b = 0#256 := by
  have h1 := wide_hi_nat a b
  have h2 := BitVec.toNat_mul a b
  have h3 := Nat.mod_add_div (a.toNat * b.toNat) (2 ^ 256)
  unfold restU remD
  split
  · rfl
  · rw [h1, h2, h3, Nat.mul_mod_left]
theorem mulSpreads_pure (avs : List AV) (h : Fits [argU, argU, argU] avs) : Pure Try.prog 13 avs (.bool true) := by
  obtain ⟨_, _, ⟨a, rfl⟩, ⟨_, _, ⟨b, rfl⟩, ⟨_, _, ⟨c, rfl⟩, rfl, rfl⟩, rfl⟩, rfl⟩ := h
  refine Pure.by_tree mixed _ 100 _ _ (mulSpreads_tree a b c) ?_
  have h1 : a * (b + c) = a * b + a * c := BitVec.mul_add
  have h2 : restU (wideHi a b) (a * b) a = 0#256 := by rw [wide_comm, BitVec.mul_comm]; exact rest_factor b a
  rw [limbs_zero, limbs_one, h1, h2, rest_factor, wide_comm a b, BitVec.mul_comm b a, BitVec.mul_one]
  simp only [T.holds, beq_self_eq_true, true_implies, reduceCtorEq, false_implies, and_true, true_and]
  exact (SameV.bool rfl).r

theorem mulSpreads_walk : Walk Try.prog 13 Try.f13.params.toList := by
  rw [Try.params13]
  exact Walk.of fi_trucelaw02_MulSpreads rfl [argU, argU, argU] mulSpreads_pure

set_option maxRecDepth 100000 in
theorem mulSpreads_lifted (os : Os) (started : os.Started) (H : Type) (enc : TypeId × Value → H) :
    ReturnsInHanded {} Try.checked os 13 .any (Rows.mulSpreadsSpec.pre6 enc Try.prog Try.f13 Rows.mulSpreadsRow.domain false) (Rows.mulSpreadsSpec.post enc Try.prog Try.f13 false true false false) :=
  lifted_of (s := Rows.mulSpreadsSpec) 13 Try.f13 4 Try.underlying4 (by kernel_rfl) rfl Try.func13 (by kernel_rfl)
      (fun _ ds hl => by
        rw [Try.params13] at hl
        match ds, hl with
        | [_, _, _], _ => rfl) (by kernel_rfl) mulSpreads_walk os started H enc
      (ChangeSpec.witness6 (enc := enc) (C := Try.checked) false ⟨#[], #[zeroU, zeroU, zeroU], []⟩ 8 (by kernel_rfl) (by kernel_rfl) (by kernel_rfl) (by kernel_rfl))

theorem mulSpreads_closed : joinedFacts Try.prog 13 Try.f13 Rows.mulSpreadsSpec Rows.mulSpreadsRow = true := by kernel_rfl

theorem mulSpreads_holds : Rows.MulSpreadsSaid :=
  OpenClaim.holds_of_wide 13 Try.f13 rfl rfl rfl rfl rfl rfl rfl ⟨rfl, rfl, rfl, rfl, rfl⟩ rfl rfl rfl rfl rfl (by kernel_rfl) Try.func13 mulSpreads_closed
    (of_decide_eq_true (by kernel_rfl)) (by unfold Func.isWrapper; first | (rw [if_pos (by decide +kernel)]; kernel_rfl) | (rw [if_neg (by decide +kernel)]; exact ⟨rfl, rfl⟩))
    (fun os started H enc _ => mulSpreads_lifted os started H enc)
#print axioms mulSpreads_holds

end Go.Proofs.Ytakmgioeldbkcaa
