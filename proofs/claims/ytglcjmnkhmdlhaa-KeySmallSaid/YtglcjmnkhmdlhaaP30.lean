/- KeySmall: for every number the call returns true, nothing that was there turns; the argument reads behind the call as it read before. No conditions. -/
import Derived.Test.YtglcjmnkhmdlhaaKD
import Derived.Test.YtglcjmnkhmdlhaaKB
import Derived.Test.YtglcjmnkhmdlhaaQ30
namespace Go.Proofs.Ytglcjmnkhmdlhaa
open Go Go.RowKit Go.ChangeShapes
noncomputable def ks_X : EnvT Try.prog := { cs := [c_keysmall, c_keywho, c_keyfit, c_awake07], fis := [fi_trucelaw07_KeySmall] }
theorem ks_tree (n : Int) : (callT (ks_X) (execT (ks_X) 100) 5 [.int .u64 n] [] [] 0 []).map CR.v =
    (.need (inR n)
    (.ite (fitK (smallU n))
     (.need true
     (.ite (!((smallU n) == (ofLimbs (0 : Int) (0 : Int) (0 : Int) (0 : Int))))
      (.ite ((pubE (smallU n)) == (0 : Int))
       (.ite ((((ByteArray.size (whoS (smallU n))) : Nat) : Int) == (20 : Int))
        (.leaf (.bool true))
        (.leaf (.bool false)))
       (.leaf (.bool false)))
      (.leaf (.bool false))))
     (.leaf (.bool false)))) := by kernel_rfl
theorem whoS_size {k : BitVec 256} (h : fitK k = true) : (whoS k).size = 20 := by
  have hn : pubN k = false := by
    unfold pubN
    rw [if_pos h]
    cases hp : kPt k with
    | O => exact absurd hp (kPt_ne h)
    | A x y => rfl
  unfold whoS
  rw [if_pos h, hn]
  unfold addrS
  rw [if_neg (by decide), ByteArray.size_extract, hashS_size]
  rfl
theorem keySmall_pure (avs : List AV) (h : Fits [argN] avs) : Pure Try.prog 5 avs (.bool true) := by
  obtain ⟨_, _, ⟨n, rfl, hn⟩, rfl, rfl⟩ := h
  have hr : inR (n : Int) = true := inR_limb hn
  have hf := small_fit hr
  have hz : (smallU (n : Int) == 0#256) = false := by
    unfold fitK at hf
    simp only [Bool.and_eq_true, Bool.not_eq_true'] at hf
    exact hf.1
  refine Pure.by_tree mixed _ 100 _ _ (ks_tree _) (T.yes_ok ?_)
  rw [hf, ofLimbs0, hz, pubE_yes hf, whoS_size hf]
  simp [T.yes, hr]
theorem keySmall_walk : Walk Try.prog 5 Try.f5.params.toList := by
  rw [Try.params5]
  exact Walk.of fi_trucelaw07_KeySmall rfl [argN] keySmall_pure

set_option maxRecDepth 100000 in
theorem keySmall_lifted (os : Os) (started : os.Started) (H : Type) (enc : TypeId × Value → H) :
    ReturnsInHanded {} Try.checked os 5 .any (Rows.keySmallSpec.pre6 enc Try.prog Try.f5 Rows.keySmallRow.domain false) (Rows.keySmallSpec.post enc Try.prog Try.f5 false true false false) :=
  lifted_of (s := Rows.keySmallSpec) 5 Try.f5 4 Try.underlying4 (by kernel_rfl) rfl Try.func5 (by kernel_rfl)
      (fun _ ds hl => by
        rw [Try.params5] at hl
        match ds, hl with
        | [_], _ => rfl) (by kernel_rfl) keySmall_walk os started H enc
      (ChangeSpec.witness6 (enc := enc) (C := Try.checked) false ⟨#[], #[.int .u64 0], []⟩ 8 (by kernel_rfl) (by kernel_rfl) (by kernel_rfl) (by kernel_rfl))

theorem keySmall_holds : Rows.KeySmallSaid :=
  OpenClaim.holds_of_wide 5 Try.f5 rfl rfl rfl rfl rfl rfl rfl ⟨rfl, rfl, rfl, rfl, rfl⟩ rfl rfl rfl rfl rfl (by kernel_rfl) Try.func5 keySmall_closed
    (of_decide_eq_true (by kernel_rfl)) (by unfold Func.isWrapper; first | (rw [if_pos (by decide +kernel)]; kernel_rfl) | (rw [if_neg (by decide +kernel)]; exact ⟨rfl, rfl⟩))
    (fun os started H enc _ => keySmall_lifted os started H enc)
#print axioms keySmall_holds

end Go.Proofs.Ytglcjmnkhmdlhaa
