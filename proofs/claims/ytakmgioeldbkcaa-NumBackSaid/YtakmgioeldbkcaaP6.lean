/- The law NumBack: for every input it returns true; each argument reads behind the call as it read before. -/
import Derived.Test.YtakmgioeldbkcaaG11
import Derived.Test.YtakmgioeldbkcaaXR
namespace Go.Proofs.Ytakmgioeldbkcaa
open Go Go.RowKit Go.ChangeShapes

noncomputable def XN6 : EnvX Try.prog := { cs := [c_num_Read, c_num_Bytes, c_num_Add, c_num_Sub, c_awake01], fis := [fi_trucelaw01_NumBack], lcs := [], br := brL [(6, 3, false)], hint := hAll { dec := fun _ => some false } 6 [3] (decAt 6 8) }
theorem numBack_run (a b : BitVec 256) : (callX XN6 (exec XN6 100) 6 [.u a, .u b] [] 0).map (fun r => (r.1, r.2.1)) =
    some (List.replicate 4 ((((ubytes a).size : Int) != 32) == false) ++ List.replicate 3 ((!(readU (ubytes a) == a)) == false) ++ [(readE (ubytes a) != 0) == false] ++ List.replicate 4 ((a + b - b == a) == true) ++ List.replicate 4 ((uover a b == uless (a + b) b) == true) ++ List.replicate 4 ((b + a == a + b) == true) ++ List.replicate 2 ((uover b a == uover a b) == true), .bool true) := by kernel_rfl

theorem over_under (a b : BitVec 256) : uover a b = uless (a + b) b := by
  have ha := a.isLt
  have hb := b.isLt
  unfold uover uless
  rw [BitVec.toNat_add, decide_eq_decide]
  omega
theorem over_swap (a b : BitVec 256) : uover b a = uover a b := by
  unfold uover
  rw [Nat.add_comm]
theorem add_back (a b : BitVec 256) : a + b - b = a := BitVec.add_sub_cancel a b
theorem numBack_pure (avs : List AV) (h : Fits [argU, argU] avs) : Pure Try.prog 6 avs (.bool true) := by
  obtain ⟨_, _, ⟨a, rfl⟩, ⟨_, _, ⟨b, rfl⟩, rfl, rfl⟩, rfl⟩ := h
  refine Pure.by_run mixed _ 100 _ _ (numBack_run a b) ?_ (SameV.bool rfl).r
  simp only [ubytes_size, ubytes_read, ubytes_err, ← over_under, over_swap, add_back, BitVec.add_comm b a]
  simp
theorem numBack_walk : Walk Try.prog 6 Try.f6.params.toList := by
  rw [Try.params6]
  exact Walk.of fi_trucelaw01_NumBack rfl [argU, argU] numBack_pure

set_option maxRecDepth 100000 in
theorem numBack_lifted (os : Os) (started : os.Started) (H : Type) (enc : TypeId × Value → H) :
    ReturnsInHanded {} Try.checked os 6 .any (Rows.numBackSpec.pre6 enc Try.prog Try.f6 Rows.numBackRow.domain false) (Rows.numBackSpec.post enc Try.prog Try.f6 false true false false) :=
  lifted_of (s := Rows.numBackSpec) 6 Try.f6 4 Try.underlying4 (by kernel_rfl) rfl Try.func6 (by kernel_rfl)
      (fun _ ds hl => by
        rw [Try.params6] at hl
        match ds, hl with
        | [_, _], _ => rfl) (by kernel_rfl) numBack_walk os started H enc
      (ChangeSpec.witness6 (enc := enc) (C := Try.checked) false ⟨#[], #[zeroU, zeroU], []⟩ 8 (by kernel_rfl) (by kernel_rfl) (by kernel_rfl) (by kernel_rfl))

theorem numBack_closed : joinedFacts Try.prog 6 Try.f6 Rows.numBackSpec Rows.numBackRow = true := by kernel_rfl

theorem numBack_holds : Rows.NumBackSaid :=
  OpenClaim.holds_of_wide 6 Try.f6 rfl rfl rfl rfl rfl rfl rfl ⟨rfl, rfl, rfl, rfl, rfl⟩ rfl rfl rfl rfl rfl (by kernel_rfl) Try.func6 numBack_closed
    (of_decide_eq_true (by kernel_rfl)) (by unfold Func.isWrapper; first | (rw [if_pos (by decide +kernel)]; kernel_rfl) | (rw [if_neg (by decide +kernel)]; exact ⟨rfl, rfl⟩))
    (fun os started H enc _ => numBack_lifted os started H enc)
#print axioms numBack_holds

end Go.Proofs.Ytakmgioeldbkcaa
