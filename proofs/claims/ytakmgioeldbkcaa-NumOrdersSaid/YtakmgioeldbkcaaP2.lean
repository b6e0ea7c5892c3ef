/- The law NumOrders: for every input it returns true; each argument reads behind the call as it read before. -/
import Derived.Test.YtakmgioeldbkcaaG3
import Derived.Test.YtakmgioeldbkcaaXR
namespace Go.Proofs.Ytakmgioeldbkcaa
open Go Go.RowKit Go.ChangeShapes

noncomputable def XN2 : EnvX Try.prog := { cs := [c_num_Add, c_num_Sub, c_num_Of, c_num_And, c_num_Or, c_num_Cmp, c_awake01], fis := [fi_trucelaw01_NumOrders], lcs := [], hint := decAt 4 6 }
theorem numOrders_run (a b c : BitVec 256) : (callX XN2 (exec XN2 100) 4 [.u a, .u b, .u c] [] 0).map (fun r => (r.1, r.2.1)) =
    some (List.replicate 7 ((a + b + c == a + (b + c)) == true) ++ List.replicate 7 ((uless a b == decide (ucmp a b < 0)) == true) ++ List.replicate 7 (decide (ucmp (a &&& b) a ≤ 0) == true) ++ List.replicate 2 (decide (ucmp (a ||| b) a ≥ 0) == true), .bool true) := by kernel_rfl
theorem ucmp_neg (a b : BitVec 256) : decide (ucmp a b < 0) = uless a b := by
  unfold ucmp
  by_cases h : a = b
  · subst h; simp [uless]
  · rw [if_neg h]
    cases uless a b <;> rfl
theorem ucmp_le {a b : BitVec 256} (h : a.toNat ≤ b.toNat) : ucmp a b ≤ 0 := by
  unfold ucmp
  by_cases hab : a = b
  · rw [if_pos hab]; exact Int.le_refl _
  · have : a.toNat ≠ b.toNat := fun e => hab (BitVec.eq_of_toNat_eq e)
    rw [if_neg hab, if_pos (by simp [uless]; omega)]; decide
theorem ucmp_ge {a b : BitVec 256} (h : b.toNat ≤ a.toNat) : 0 ≤ ucmp a b := by
  unfold ucmp
  by_cases hab : a = b
  · rw [if_pos hab]; exact Int.le_refl _
  · rw [if_neg hab, if_neg (by simp [uless]; omega)]; decide
theorem numOrders_pure (avs : List AV) (h : Fits [argU, argU, argU] avs) : Pure Try.prog 4 avs (.bool true) := by
  obtain ⟨_, _, ⟨a, rfl⟩, ⟨_, _, ⟨b, rfl⟩, ⟨_, _, ⟨c, rfl⟩, rfl, rfl⟩, rfl⟩, rfl⟩ := h
  have h1 : ucmp (a &&& b) a ≤ 0 := ucmp_le (by rw [BitVec.toNat_and]; exact Nat.and_le_left)
  have h2 : 0 ≤ ucmp (a ||| b) a := ucmp_ge (by rw [BitVec.toNat_or]; exact Nat.left_le_or)
  exact Pure.by_run mixed XN2 100 _ _ (numOrders_run a b c) (by simp [ucmp_neg, h1, h2, BitVec.add_assoc]) (SameV.bool rfl).r
theorem numOrders_walk : Walk Try.prog 4 Try.f4.params.toList := by
  rw [Try.params4]
  exact Walk.of fi_trucelaw01_NumOrders rfl [argU, argU, argU] numOrders_pure

set_option maxRecDepth 100000 in
theorem numOrders_lifted (os : Os) (started : os.Started) (H : Type) (enc : TypeId × Value → H) :
    ReturnsInHanded {} Try.checked os 4 .any (Rows.numOrdersSpec.pre6 enc Try.prog Try.f4 Rows.numOrdersRow.domain false) (Rows.numOrdersSpec.post enc Try.prog Try.f4 false true false false) :=
  lifted_of (s := Rows.numOrdersSpec) 4 Try.f4 4 Try.underlying4 (by kernel_rfl) rfl Try.func4 (by kernel_rfl)
      (fun _ ds hl => by
        rw [Try.params4] at hl
        match ds, hl with
        | [_, _, _], _ => rfl) (by kernel_rfl) numOrders_walk os started H enc
      (ChangeSpec.witness6 (enc := enc) (C := Try.checked) false ⟨#[], #[zeroU, zeroU, zeroU], []⟩ 8 (by kernel_rfl) (by kernel_rfl) (by kernel_rfl) (by kernel_rfl))

theorem numOrders_closed : joinedFacts Try.prog 4 Try.f4 Rows.numOrdersSpec Rows.numOrdersRow = true := by kernel_rfl

theorem numOrders_holds : Rows.NumOrdersSaid :=
  OpenClaim.holds_of_wide 4 Try.f4 rfl rfl rfl rfl rfl rfl rfl ⟨rfl, rfl, rfl, rfl, rfl⟩ rfl rfl rfl rfl rfl (by kernel_rfl) Try.func4 numOrders_closed
    (of_decide_eq_true (by kernel_rfl)) (by unfold Func.isWrapper; first | (rw [if_pos (by decide +kernel)]; kernel_rfl) | (rw [if_neg (by decide +kernel)]; exact ⟨rfl, rfl⟩))
    (fun os started H enc _ => numOrders_lifted os started H enc)
#print axioms numOrders_holds

end Go.Proofs.Ytakmgioeldbkcaa
