/- MemWords: for every two numbers the call returns true, nothing that was there turns; each argument reads behind the call as it read before. No conditions. -/
import Derived.Test.YtakmgioeldbkcaaK7
import Derived.Test.YtakmgioeldbkcaaXR
import Derived.Test.YtakmgioeldbkcaaQ12
namespace Go.Proofs.Ytakmgioeldbkcaa
open Go Go.RowKit Go.ChangeShapes

theorem memWords_tree (n k : Int) : (callT (lawX12) (execT (lawX12) 100) 16 [.int .u32 n, .int .u16 k] [] [] 0 []).map CR.v =
    (.need (decide ((IntKind.wrap .i64 n) ≤ (4611686018427387904 : Int)))
    (.ite (decide ((IntKind.wrap .i64 ((32 : Int) * (((wordsN (Int.toNat (IntKind.wrap .i64 n))) : Nat) : Int))) < (IntKind.wrap .i64 n)))
     (.leaf (.bool false))
     (.ite (decide ((IntKind.wrap .i64 ((IntKind.wrap .i64 ((32 : Int) * (((wordsN (Int.toNat (IntKind.wrap .i64 n))) : Nat) : Int))) - (31 : Int))) > (IntKind.wrap .i64 n)))
      (.ite (decide (n > (0 : Int)))
       (.leaf (.bool false))
       (.ite (n == (0 : Int))
        (.ite ((((wordsN (Int.toNat (IntKind.wrap .i64 n))) : Nat) : Int) != (0 : Int))
         (.leaf (.bool false))
         (.need (decide ((IntKind.wrap .i64 k) ≤ (9223372036854775807 : Int)))
         (.ite (decide ((((costN (Int.toNat (IntKind.wrap .i64 k))) : Nat) : Int) ≥ (IntKind.wrap .i64 ((3 : Int) * (IntKind.wrap .i64 k)))))
          (.need (decide ((IntKind.wrap .i64 ((IntKind.wrap .i64 k) + (1 : Int))) ≤ (9223372036854775807 : Int)))
          (.need (decide ((IntKind.wrap .i64 k) ≤ (9223372036854775807 : Int)))
          (.ite (decide ((((costN (Int.toNat (IntKind.wrap .i64 ((IntKind.wrap .i64 k) + (1 : Int))))) : Nat) : Int) > (((costN (Int.toNat (IntKind.wrap .i64 k))) : Nat) : Int)))
           (.leaf (.bool true))
           (.leaf (.bool false)))))
          (.leaf (.bool false)))))
        (.need (decide ((IntKind.wrap .i64 k) ≤ (9223372036854775807 : Int)))
        (.ite (decide ((((costN (Int.toNat (IntKind.wrap .i64 k))) : Nat) : Int) ≥ (IntKind.wrap .i64 ((3 : Int) * (IntKind.wrap .i64 k)))))
         (.need (decide ((IntKind.wrap .i64 ((IntKind.wrap .i64 k) + (1 : Int))) ≤ (9223372036854775807 : Int)))
         (.need (decide ((IntKind.wrap .i64 k) ≤ (9223372036854775807 : Int)))
         (.ite (decide ((((costN (Int.toNat (IntKind.wrap .i64 ((IntKind.wrap .i64 k) + (1 : Int))))) : Nat) : Int) > (((costN (Int.toNat (IntKind.wrap .i64 k))) : Nat) : Int)))
          (.leaf (.bool true))
          (.leaf (.bool false)))))
         (.leaf (.bool false))))))
      (.ite (n == (0 : Int))
       (.ite ((((wordsN (Int.toNat (IntKind.wrap .i64 n))) : Nat) : Int) != (0 : Int))
        (.leaf (.bool false))
        (.need (decide ((IntKind.wrap .i64 k) ≤ (9223372036854775807 : Int)))
        (.ite (decide ((((costN (Int.toNat (IntKind.wrap .i64 k))) : Nat) : Int) ≥ (IntKind.wrap .i64 ((3 : Int) * (IntKind.wrap .i64 k)))))
         (.need (decide ((IntKind.wrap .i64 ((IntKind.wrap .i64 k) + (1 : Int))) ≤ (9223372036854775807 : Int)))
         (.need (decide ((IntKind.wrap .i64 k) ≤ (9223372036854775807 : Int)))
         (.ite (decide ((((costN (Int.toNat (IntKind.wrap .i64 ((IntKind.wrap .i64 k) + (1 : Int))))) : Nat) : Int) > (((costN (Int.toNat (IntKind.wrap .i64 k))) : Nat) : Int)))
          (.leaf (.bool true))
          (.leaf (.bool false)))))
         (.leaf (.bool false)))))
       (.need (decide ((IntKind.wrap .i64 k) ≤ (9223372036854775807 : Int)))
       (.ite (decide ((((costN (Int.toNat (IntKind.wrap .i64 k))) : Nat) : Int) ≥ (IntKind.wrap .i64 ((3 : Int) * (IntKind.wrap .i64 k)))))
        (.need (decide ((IntKind.wrap .i64 ((IntKind.wrap .i64 k) + (1 : Int))) ≤ (9223372036854775807 : Int)))
        (.need (decide ((IntKind.wrap .i64 k) ≤ (9223372036854775807 : Int)))
        (.ite (decide ((((costN (Int.toNat (IntKind.wrap .i64 ((IntKind.wrap .i64 k) + (1 : Int))))) : Nat) : Int) > (((costN (Int.toNat (IntKind.wrap .i64 k))) : Nat) : Int)))
         (.leaf (.bool true))
         (.leaf (.bool false)))))
        (.leaf (.bool false)))))))) := by kernel_rfl

theorem costN_rise (k : Nat) (hk : k < 65536) : 3 * k ≤ costN k ∧ costN k < costN (k + 1) := by
  unfold costN
  rw [Nat.min_eq_left (by omega : k ≤ 65536), Nat.min_eq_left (by omega : k + 1 ≤ 65536)]
  have : k * k / 512 ≤ (k + 1) * (k + 1) / 512 := Nat.div_le_div_right (Nat.mul_le_mul (by omega) (by omega))
  omega
theorem memWords_pure (avs : List AV) (h : Fits [argU32, argU16] avs) : Pure Try.prog 16 avs (.bool true) := by
  obtain ⟨_, _, ⟨n, rfl, hn⟩, ⟨_, _, ⟨k, rfl, hk⟩, rfl, rfl⟩, rfl⟩ := h
  refine Pure.by_tree mixed _ 100 _ _ (memWords_tree n k) ?_
  obtain ⟨c1, c2⟩ := costN_rise k hk
  have c3 := costN_le (k + 1)
  rw [wrap_i64_id (n := (n : Int)) (by omega) (by omega), wrap_i64_id (n := (k : Int)) (by omega) (by omega), wrapi_one (by omega)]
  simp only [toNat_c]
  have hw : wordsN n = (n + 31) / 32 := rfl
  generalize wordsN n = w at *
  generalize costN (k + 1) = C1 at *
  generalize costN k = C at *
  rw [show (32 : Int) * (w : Int) = ((32 * w : Nat) : Int) by omega, wrap_i64_id (n := ((32 * w : Nat) : Int)) (by omega) (by omega), wrap_i64_in (n := ((32 * w : Nat) : Int) - 31) (by omega) (by omega), wrap_i64_in (n := (3 : Int) * (k : Int)) (by omega) (by omega)]
  simp only [T.holds]
  repeat' (first | exact (SameV.bool rfl).r | refine And.intro ?_ ?_ | intro _)
  all_goals (first | (simp; omega) | (exfalso; simp at *; omega))

theorem memWords_walk : Walk Try.prog 16 Try.f16.params.toList := by
  rw [Try.params16]
  exact Walk.of fi_trucelaw12_MemWords rfl [argU32, argU16] memWords_pure

set_option maxRecDepth 100000 in
theorem memWords_lifted (os : Os) (started : os.Started) (H : Type) (enc : TypeId × Value → H) :
    ReturnsInHanded {} Try.checked os 16 .any (Rows.memWordsSpec.pre6 enc Try.prog Try.f16 Rows.memWordsRow.domain false) (Rows.memWordsSpec.post enc Try.prog Try.f16 false true false false) :=
  lifted_of (s := Rows.memWordsSpec) 16 Try.f16 4 Try.underlying4 (by kernel_rfl) rfl Try.func16 (by kernel_rfl)
      (fun _ ds hl => by
        rw [Try.params16] at hl
        match ds, hl with
        | [_, _], _ => rfl) (by kernel_rfl) memWords_walk os started H enc
      (ChangeSpec.witness6 (enc := enc) (C := Try.checked) false ⟨#[], #[.int .u32 0, .int .u16 0], []⟩ 8 (by kernel_rfl) (by kernel_rfl) (by kernel_rfl) (by kernel_rfl))

theorem memWords_holds : Rows.MemWordsSaid :=
  OpenClaim.holds_of_wide 16 Try.f16 rfl rfl rfl rfl rfl rfl rfl ⟨rfl, rfl, rfl, rfl, rfl⟩ rfl rfl rfl rfl rfl (by kernel_rfl) Try.func16 memWords_closed
    (of_decide_eq_true (by kernel_rfl)) (by unfold Func.isWrapper; first | (rw [if_pos (by decide +kernel)]; kernel_rfl) | (rw [if_neg (by decide +kernel)]; exact ⟨rfl, rfl⟩))
    (fun os started H enc _ => memWords_lifted os started H enc)
#print axioms memWords_holds

end Go.Proofs.Ytakmgioeldbkcaa
