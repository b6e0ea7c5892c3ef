/- The law NumBits: for every input it returns true; each argument reads behind the call as it read before. -/
import Derived.Test.YtakmgioeldbkcaaG9
import Derived.Test.YtakmgioeldbkcaaXR
namespace Go.Proofs.Ytakmgioeldbkcaa
open Go Go.RowKit Go.ChangeShapes

noncomputable def XN3 : EnvX Try.prog := { cs := [c_num_And, c_num_Or, c_num_Xor, c_num_Not, c_ref_And, c_ref_Or, c_ref_Xor, c_ref_Not, c_num_Shl, c_num_Shr, c_ref_Shl, c_ref_Shr, c_num_Bits, c_ref_Bits, c_awake01], fis := [fi_trucelaw01_NumBits], lcs := [], hint := decAt 7 1 }
theorem numBits_run (a b : BitVec 256) (n : Nat) : (callX XN3 (exec XN3 100) 7 [.u a, .u b, .int .u64 n] [] 0).map (fun r => (r.1, r.2.1)) =
    some (List.replicate 8 ((a &&& b == a &&& b) == true) ++ List.replicate 8 ((a ||| b == a ||| b) == true) ++ List.replicate 6 ((a ^^^ b == a ^^^ b) == true) ++ List.replicate 3 ((~~~a == ~~~a) == true) ++ [inR (n : Int)] ++ List.replicate 3 ((~~~a == ~~~a) == true) ++ [inR (n : Int)] ++ List.replicate 2 ((~~~a == ~~~a) == true) ++ List.replicate 3 ((a <<< ((n : Int)).toNat == a <<< ((n : Int)).toNat) == true) ++ [inR (n : Int)] ++ List.replicate 3 ((a <<< ((n : Int)).toNat == a <<< ((n : Int)).toNat) == true) ++ [inR (n : Int)] ++ List.replicate 2 ((a <<< ((n : Int)).toNat == a <<< ((n : Int)).toNat) == true) ++ List.replicate 6 ((a >>> ((n : Int)).toNat == a >>> ((n : Int)).toNat) == true) ++ List.replicate 2 ((((blen a.toNat : Nat) : Int) == ((blen a.toNat : Nat) : Int)) == true), .bool true) := by kernel_rfl
theorem numBits_pure (avs : List AV) (h : Fits [argU, argU, argN] avs) : Pure Try.prog 7 avs (.bool true) := by
  obtain ⟨_, _, ⟨a, rfl⟩, ⟨_, _, ⟨b, rfl⟩, ⟨_, _, ⟨n, rfl, hn⟩, rfl, rfl⟩, rfl⟩, rfl⟩ := h
  exact Pure.by_run mixed XN3 100 _ _ (numBits_run a b n) (by simp [inR_limb hn]) (SameV.bool rfl).r
theorem numBits_walk : Walk Try.prog 7 Try.f7.params.toList := by
  rw [Try.params7]
  exact Walk.of fi_trucelaw01_NumBits rfl [argU, argU, argN] numBits_pure

set_option maxRecDepth 100000 in
theorem numBits_lifted (os : Os) (started : os.Started) (H : Type) (enc : TypeId × Value → H) :
    ReturnsInHanded {} Try.checked os 7 .any (Rows.numBitsSpec.pre6 enc Try.prog Try.f7 Rows.numBitsRow.domain false) (Rows.numBitsSpec.post enc Try.prog Try.f7 false true false false) :=
  lifted_of (s := Rows.numBitsSpec) 7 Try.f7 4 Try.underlying4 (by kernel_rfl) rfl Try.func7 (by kernel_rfl)
      (fun _ ds hl => by
        rw [Try.params7] at hl
        match ds, hl with
        | [_, _, _], _ => rfl) (by kernel_rfl) numBits_walk os started H enc
      (ChangeSpec.witness6 (enc := enc) (C := Try.checked) false ⟨#[], #[zeroU, zeroU, .int .u64 0], []⟩ 8 (by kernel_rfl) (by kernel_rfl) (by kernel_rfl) (by kernel_rfl))

theorem numBits_closed : joinedFacts Try.prog 7 Try.f7 Rows.numBitsSpec Rows.numBitsRow = true := by kernel_rfl

theorem numBits_holds : Rows.NumBitsSaid :=
  OpenClaim.holds_of_wide 7 Try.f7 rfl rfl rfl rfl rfl rfl rfl ⟨rfl, rfl, rfl, rfl, rfl⟩ rfl rfl rfl rfl rfl (by kernel_rfl) Try.func7 numBits_closed
    (of_decide_eq_true (by kernel_rfl)) (by unfold Func.isWrapper; first | (rw [if_pos (by decide +kernel)]; kernel_rfl) | (rw [if_neg (by decide +kernel)]; exact ⟨rfl, rfl⟩))
    (fun os started H enc _ => numBits_lifted os started H enc)
#print axioms numBits_holds

end Go.Proofs.Ytakmgioeldbkcaa
