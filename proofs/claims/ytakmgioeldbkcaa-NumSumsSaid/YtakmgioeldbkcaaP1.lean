/- The law NumSums: for every input it returns true; each argument reads behind the call as it read before. -/
import Derived.Test.YtakmgioeldbkcaaG3
import Derived.Test.YtakmgioeldbkcaaXR
namespace Go.Proofs.Ytakmgioeldbkcaa
open Go Go.RowKit Go.ChangeShapes

noncomputable def XN1 : EnvX Try.prog := { cs := [c_num_Add, c_num_Sub, c_num_Of, c_ref_Add, c_ref_Sub, c_ref_Of, c_num_Cmp, c_ref_Cmp, c_awake01], fis := [fi_trucelaw01_NumSums], lcs := [], hint := decAt 3 5 }
theorem numSums_run (a b : BitVec 256) (n : Int) : (callX XN1 (exec XN1 100) 3 [.u a, .u b, .int .u64 n] [] 0).map (fun r => (r.1, r.2.1)) =
    some (List.replicate 4 ((a + b == a + b) == true) ++ List.replicate 4 ((uover a b == uover a b) == true) ++ List.replicate 4 ((a - b == a - b) == true) ++ List.replicate 8 ((uless a b == uless a b) == true) ++
      (List.replicate 2 ((ucmp a b == ucmp a b) == true) ++ [inR n]) ++ (List.replicate 2 ((ucmp a b == ucmp a b) == true) ++ [inR n]) ++ List.replicate 2 ((ucmp a b == ucmp a b) == true) ++
      List.replicate 2 ((BitVec.ofNat 256 n.toNat == BitVec.ofNat 256 n.toNat) == true), .bool true) := by kernel_rfl
theorem inR_nat {n : Nat} (h : n < 18446744073709551616) : inR (n : Int) = true := by
  simp only [inR, Bool.and_eq_true, decide_eq_true_eq]; omega
theorem numSums_pure (avs : List AV) (h : Fits [argU, argU, argN] avs) : Pure Try.prog 3 avs (.bool true) := by
  obtain ⟨_, _, ⟨a, rfl⟩, ⟨_, _, ⟨b, rfl⟩, ⟨_, _, ⟨n, rfl, hn⟩, rfl, rfl⟩, rfl⟩, rfl⟩ := h
  exact Pure.by_run mixed XN1 100 _ _ (numSums_run a b n) (by simp [inR_nat hn]) (SameV.bool rfl).r

theorem numSums_walk : Walk Try.prog 3 Try.f3.params.toList := by
  rw [Try.params3]
  exact Walk.of fi_trucelaw01_NumSums rfl [argU, argU, argN] numSums_pure

set_option maxRecDepth 100000 in
theorem numSums_lifted (os : Os) (started : os.Started) (H : Type) (enc : TypeId × Value → H) :
    ReturnsInHanded {} Try.checked os 3 .any (Rows.numSumsSpec.pre6 enc Try.prog Try.f3 Rows.numSumsRow.domain false) (Rows.numSumsSpec.post enc Try.prog Try.f3 false true false false) :=
  lifted_of (s := Rows.numSumsSpec) 3 Try.f3 4 Try.underlying4 (by kernel_rfl) rfl Try.func3 (by kernel_rfl)
      (fun _ ds hl => by
        rw [Try.params3] at hl
        match ds, hl with
        | [_, _, _], _ => rfl) (by kernel_rfl) numSums_walk os started H enc
      (ChangeSpec.witness6 (enc := enc) (C := Try.checked) false ⟨#[], #[zeroU, zeroU, .int .u64 0], []⟩ 8 (by kernel_rfl) (by kernel_rfl) (by kernel_rfl) (by kernel_rfl))

theorem numSums_closed : joinedFacts Try.prog 3 Try.f3 Rows.numSumsSpec Rows.numSumsRow = true := by kernel_rfl

theorem numSums_holds : Rows.NumSumsSaid :=
  OpenClaim.holds_of_wide 3 Try.f3 rfl rfl rfl rfl rfl rfl rfl ⟨rfl, rfl, rfl, rfl, rfl⟩ rfl rfl rfl rfl rfl (by kernel_rfl) Try.func3 numSums_closed
    (of_decide_eq_true (by kernel_rfl)) (by unfold Func.isWrapper; first | (rw [if_pos (by decide +kernel)]; kernel_rfl) | (rw [if_neg (by decide +kernel)]; exact ⟨rfl, rfl⟩))
    (fun os started H enc _ => numSums_lifted os started H enc)
#print axioms numSums_holds
end Go.Proofs.Ytakmgioeldbkcaa
