/- The law NumBytes: for every input it returns true; each argument reads behind the call as it read before. -/
import Derived.Test.YtakmgioeldbkcaaG11
import Derived.Test.YtakmgioeldbkcaaXR
namespace Go.Proofs.Ytakmgioeldbkcaa
open Go Go.RowKit Go.ChangeShapes

noncomputable def XN5 (d : Bool) : EnvX Try.prog := { cs := [c_num_Read, c_ref_Read, c_num_Bytes, c_ref_Bytes, c_awake01], fis := [fi_trucelaw01_NumBytes], lcs := [], br := brL [(5, 1, d)], hint := decAt 5 5 }
theorem numBytes_run_true (a : BitVec 256) (s : ByteArray) : (callX (XN5 true) (exec (XN5 true) 100) 5 [.u a, .str s] [] 0).map (fun r => (r.1, r.2.1)) =
    some ([decide ((s.size : Int) > 10000) == true], .bool true) := by kernel_rfl
theorem numBytes_run_false (a : BitVec 256) (s : ByteArray) : (callX (XN5 false) (exec (XN5 false) 100) 5 [.u a, .str s] [] 0).map (fun r => (r.1, r.2.1)) =
    some ([decide ((s.size : Int) > 10000) == false] ++ List.replicate 4 (((ubytes a).toList == (ubytes a).toList) == true) ++ List.replicate 4 ((readU s == readU s) == true) ++ List.replicate 2 ((readE s == readE s) == true), .bool true) := by kernel_rfl

noncomputable def argS : Arg Try.prog := Arg.s 9 Try.underlying9
theorem numBytes_pure (avs : List AV) (h : Fits [argU, argS] avs) : Pure Try.prog 5 avs (.bool true) := by
  obtain ⟨_, _, ⟨a, rfl⟩, ⟨_, _, ⟨s, rfl, hs⟩, rfl, rfl⟩, rfl⟩ := h
  by_cases h : s.size ≤ 10000
  · exact Pure.by_run mixed _ 100 _ _ (numBytes_run_false a s) (by simp; omega) (SameV.bool rfl).r
  · exact Pure.by_run mixed _ 100 _ _ (numBytes_run_true a s) (by simp; omega) (SameV.bool rfl).r
theorem numBytes_walk : Walk Try.prog 5 Try.f5.params.toList := by
  rw [Try.params5]
  exact Walk.of fi_trucelaw01_NumBytes rfl [argU, argS] numBytes_pure

set_option maxRecDepth 100000 in
theorem numBytes_lifted (os : Os) (started : os.Started) (H : Type) (enc : TypeId × Value → H) :
    ReturnsInHanded {} Try.checked os 5 .any (Rows.numBytesSpec.pre6 enc Try.prog Try.f5 Rows.numBytesRow.domain false) (Rows.numBytesSpec.post enc Try.prog Try.f5 false true false false) :=
  lifted_of (s := Rows.numBytesSpec) 5 Try.f5 4 Try.underlying4 (by kernel_rfl) rfl Try.func5 (by kernel_rfl)
      (fun _ ds hl => by
        rw [Try.params5] at hl
        match ds, hl with
        | [_, _], _ => rfl) (by kernel_rfl) numBytes_walk os started H enc
      (ChangeSpec.witness6 (enc := enc) (C := Try.checked) false ⟨#[], #[zeroU, .string .empty], []⟩ 8 (by kernel_rfl) (by kernel_rfl) (by kernel_rfl) (by kernel_rfl))

theorem numBytes_closed : joinedFacts Try.prog 5 Try.f5 Rows.numBytesSpec Rows.numBytesRow = true := by kernel_rfl

theorem numBytes_holds : Rows.NumBytesSaid :=
  OpenClaim.holds_of_wide 5 Try.f5 rfl rfl rfl rfl rfl rfl rfl ⟨rfl, rfl, rfl, rfl, rfl⟩ rfl rfl rfl rfl rfl (by kernel_rfl) Try.func5 numBytes_closed
    (of_decide_eq_true (by kernel_rfl)) (by unfold Func.isWrapper; first | (rw [if_pos (by decide +kernel)]; kernel_rfl) | (rw [if_neg (by decide +kernel)]; exact ⟨rfl, rfl⟩))
    (fun os started H enc _ => numBytes_lifted os started H enc)
#print axioms numBytes_holds

end Go.Proofs.Ytakmgioeldbkcaa
