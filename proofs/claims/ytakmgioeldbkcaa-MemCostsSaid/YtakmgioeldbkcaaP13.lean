/- MemCosts: for every two numbers the call returns true, nothing that was there turns; each argument reads behind the call as it read before. No conditions. -/
import Derived.Test.YtakmgioeldbkcaaK7
import Derived.Test.YtakmgioeldbkcaaXR
import Derived.Test.YtakmgioeldbkcaaQ13
namespace Go.Proofs.Ytakmgioeldbkcaa
open Go Go.RowKit Go.ChangeShapes

theorem memCosts_tree (a b : Int) : (callT (lawX12) (execT (lawX12) 100) 14 [.int .u16 a, .int .u16 b] [] [] 0 []).map CR.v =
    (.need true
    (.need ((((inR (IntKind.wrap .u64 ((Int.tmod (IntKind.wrap .u64 a) (4096 : Int)) + (1 : Int)))) && true) && true) && true)
    (.need true
    (.need true
    (.need ((((inR (IntKind.wrap .u64 ((Int.tmod (IntKind.wrap .u64 b) (4096 : Int)) + (1 : Int)))) && true) && true) && true)
    (.need (decide ((ByteArray.size (growM (ByteArray.mk (List.toArray [])) (ofLimbs (0 : Int) (0 : Int) (0 : Int) (0 : Int)) (ofLimbs (IntKind.wrap .u64 ((Int.tmod (IntKind.wrap .u64 a) (4096 : Int)) + (1 : Int))) (0 : Int) (0 : Int) (0 : Int)))) ≤ 4611686018427387904))
    (.need true
    (.need ((((inR (if ((IntKind.wrap .u64 ((Int.tmod (IntKind.wrap .u64 b) (4096 : Int)) + (1 : Int))) > (IntKind.wrap .u64 ((Int.tmod (IntKind.wrap .u64 a) (4096 : Int)) + (1 : Int)))) then (IntKind.wrap .u64 ((Int.tmod (IntKind.wrap .u64 b) (4096 : Int)) + (1 : Int))) else (IntKind.wrap .u64 ((Int.tmod (IntKind.wrap .u64 a) (4096 : Int)) + (1 : Int))))) && true) && true) && true)
    (.need true
    (.ite ((growE (ofLimbs (0 : Int) (0 : Int) (0 : Int) (0 : Int)) (ofLimbs (IntKind.wrap .u64 ((Int.tmod (IntKind.wrap .u64 a) (4096 : Int)) + (1 : Int))) (0 : Int) (0 : Int) (0 : Int))) == (0 : Int))
     (.ite ((growE (ofLimbs (0 : Int) (0 : Int) (0 : Int) (0 : Int)) (ofLimbs (IntKind.wrap .u64 ((Int.tmod (IntKind.wrap .u64 b) (4096 : Int)) + (1 : Int))) (0 : Int) (0 : Int) (0 : Int))) == (0 : Int))
      (.ite ((growE (ofLimbs (0 : Int) (0 : Int) (0 : Int) (0 : Int)) (ofLimbs (if ((IntKind.wrap .u64 ((Int.tmod (IntKind.wrap .u64 b) (4096 : Int)) + (1 : Int))) > (IntKind.wrap .u64 ((Int.tmod (IntKind.wrap .u64 a) (4096 : Int)) + (1 : Int)))) then (IntKind.wrap .u64 ((Int.tmod (IntKind.wrap .u64 b) (4096 : Int)) + (1 : Int))) else (IntKind.wrap .u64 ((Int.tmod (IntKind.wrap .u64 a) (4096 : Int)) + (1 : Int)))) (0 : Int) (0 : Int) (0 : Int))) == (0 : Int))
       (.ite ((ByteArray.toList (growM (growM (ByteArray.mk (List.toArray [])) (ofLimbs (0 : Int) (0 : Int) (0 : Int) (0 : Int)) (ofLimbs (IntKind.wrap .u64 ((Int.tmod (IntKind.wrap .u64 a) (4096 : Int)) + (1 : Int))) (0 : Int) (0 : Int) (0 : Int))) (ofLimbs (0 : Int) (0 : Int) (0 : Int) (0 : Int)) (ofLimbs (IntKind.wrap .u64 ((Int.tmod (IntKind.wrap .u64 b) (4096 : Int)) + (1 : Int))) (0 : Int) (0 : Int) (0 : Int)))) == (ByteArray.toList (growM (ByteArray.mk (List.toArray [])) (ofLimbs (0 : Int) (0 : Int) (0 : Int) (0 : Int)) (ofLimbs (if ((IntKind.wrap .u64 ((Int.tmod (IntKind.wrap .u64 b) (4096 : Int)) + (1 : Int))) > (IntKind.wrap .u64 ((Int.tmod (IntKind.wrap .u64 a) (4096 : Int)) + (1 : Int)))) then (IntKind.wrap .u64 ((Int.tmod (IntKind.wrap .u64 b) (4096 : Int)) + (1 : Int))) else (IntKind.wrap .u64 ((Int.tmod (IntKind.wrap .u64 a) (4096 : Int)) + (1 : Int)))) (0 : Int) (0 : Int) (0 : Int)))))
        (.ite ((IntKind.wrap .i64 ((growC (ByteArray.mk (List.toArray [])) (ofLimbs (0 : Int) (0 : Int) (0 : Int) (0 : Int)) (ofLimbs (IntKind.wrap .u64 ((Int.tmod (IntKind.wrap .u64 a) (4096 : Int)) + (1 : Int))) (0 : Int) (0 : Int) (0 : Int))) + (growC (growM (ByteArray.mk (List.toArray [])) (ofLimbs (0 : Int) (0 : Int) (0 : Int) (0 : Int)) (ofLimbs (IntKind.wrap .u64 ((Int.tmod (IntKind.wrap .u64 a) (4096 : Int)) + (1 : Int))) (0 : Int) (0 : Int) (0 : Int))) (ofLimbs (0 : Int) (0 : Int) (0 : Int) (0 : Int)) (ofLimbs (IntKind.wrap .u64 ((Int.tmod (IntKind.wrap .u64 b) (4096 : Int)) + (1 : Int))) (0 : Int) (0 : Int) (0 : Int))))) == (growC (ByteArray.mk (List.toArray [])) (ofLimbs (0 : Int) (0 : Int) (0 : Int) (0 : Int)) (ofLimbs (if ((IntKind.wrap .u64 ((Int.tmod (IntKind.wrap .u64 b) (4096 : Int)) + (1 : Int))) > (IntKind.wrap .u64 ((Int.tmod (IntKind.wrap .u64 a) (4096 : Int)) + (1 : Int)))) then (IntKind.wrap .u64 ((Int.tmod (IntKind.wrap .u64 b) (4096 : Int)) + (1 : Int))) else (IntKind.wrap .u64 ((Int.tmod (IntKind.wrap .u64 a) (4096 : Int)) + (1 : Int)))) (0 : Int) (0 : Int) (0 : Int))))
         (.ite (decide ((growC (growM (ByteArray.mk (List.toArray [])) (ofLimbs (0 : Int) (0 : Int) (0 : Int) (0 : Int)) (ofLimbs (IntKind.wrap .u64 ((Int.tmod (IntKind.wrap .u64 a) (4096 : Int)) + (1 : Int))) (0 : Int) (0 : Int) (0 : Int))) (ofLimbs (0 : Int) (0 : Int) (0 : Int) (0 : Int)) (ofLimbs (IntKind.wrap .u64 ((Int.tmod (IntKind.wrap .u64 b) (4096 : Int)) + (1 : Int))) (0 : Int) (0 : Int) (0 : Int))) ≥ (0 : Int)))
          (.ite ((Int.tmod (((ByteArray.size (growM (growM (ByteArray.mk (List.toArray [])) (ofLimbs (0 : Int) (0 : Int) (0 : Int) (0 : Int)) (ofLimbs (IntKind.wrap .u64 ((Int.tmod (IntKind.wrap .u64 a) (4096 : Int)) + (1 : Int))) (0 : Int) (0 : Int) (0 : Int))) (ofLimbs (0 : Int) (0 : Int) (0 : Int) (0 : Int)) (ofLimbs (IntKind.wrap .u64 ((Int.tmod (IntKind.wrap .u64 b) (4096 : Int)) + (1 : Int))) (0 : Int) (0 : Int) (0 : Int)))) : Nat) : Int) (32 : Int)) == (0 : Int))
           (.ite (decide ((IntKind.wrap .u64 (((ByteArray.size (growM (growM (ByteArray.mk (List.toArray [])) (ofLimbs (0 : Int) (0 : Int) (0 : Int) (0 : Int)) (ofLimbs (IntKind.wrap .u64 ((Int.tmod (IntKind.wrap .u64 a) (4096 : Int)) + (1 : Int))) (0 : Int) (0 : Int) (0 : Int))) (ofLimbs (0 : Int) (0 : Int) (0 : Int) (0 : Int)) (ofLimbs (IntKind.wrap .u64 ((Int.tmod (IntKind.wrap .u64 b) (4096 : Int)) + (1 : Int))) (0 : Int) (0 : Int) (0 : Int)))) : Nat) : Int)) ≥ (if ((IntKind.wrap .u64 ((Int.tmod (IntKind.wrap .u64 b) (4096 : Int)) + (1 : Int))) > (IntKind.wrap .u64 ((Int.tmod (IntKind.wrap .u64 a) (4096 : Int)) + (1 : Int)))) then (IntKind.wrap .u64 ((Int.tmod (IntKind.wrap .u64 b) (4096 : Int)) + (1 : Int))) else (IntKind.wrap .u64 ((Int.tmod (IntKind.wrap .u64 a) (4096 : Int)) + (1 : Int))))))
            (.leaf (.bool true))
            (.leaf (.bool false)))
           (.leaf (.bool false)))
          (.leaf (.bool false)))
         (.leaf (.bool false)))
        (.leaf (.bool false)))
       (.leaf (.bool false)))
      (.leaf (.bool false)))
     (.leaf (.bool false)))))))))))) := by kernel_rfl

theorem ofLimbs_nat {n : Nat} (h : n < 18446744073709551616) : (ofLimbs ((n : Nat) : Int) 0 0 0).toNat = n := by
  unfold ofLimbs
  simp only [BitVec.toNat_ofNat, toNat_c]
  omega
theorem zerosB_size (n : Nat) : (zerosB n).size = n := by unfold zerosB; rw [mkB_size, List.length_replicate]
theorem zerosB_add (m n : Nat) : zerosB m ++ zerosB n = zerosB (m + n) := by
  apply toL_inj
  rw [toL_append]
  unfold zerosB
  rw [to_mk, to_mk, to_mk, List.replicate_append_replicate]
theorem words_mul (w : Nat) : wordsN (32 * w) = w := by unfold wordsN; omega
theorem costN_mono {m n : Nat} (h : m ≤ n) : costN m ≤ costN n := by
  unfold costN
  have h1 : min m 65536 ≤ min n 65536 := by omega
  have : min m 65536 * min m 65536 / 512 ≤ min n 65536 * min n 65536 / 512 := Nat.div_le_div_right (Nat.mul_le_mul h1 h1)
  omega
/-- A memory of zeros that grows. -/
theorem grow_zeros {w n : Nat} {z N : BitVec 256} (hz : z.toNat = 0) (hN : N.toNat = n) (h1 : 1 ≤ n) (h2 : n ≤ 4096) : growM (zerosB (32 * w)) z N = zerosB (32 * max w (wordsN n)) ∧
    growC (zerosB (32 * w)) z N = ((costN (max w (wordsN n)) : Nat) : Int) - ((costN w : Nat) : Int) ∧ growE z N = 0 := by
  unfold growM growC growE
  rw [hz, hN, Nat.zero_add, zerosB_size, words_mul]
  have h3 : ¬ n = 0 := by omega
  have h4 : ¬ n > 4096 := by omega
  by_cases h : 32 * wordsN n ≤ 32 * w
  · have h5 : max w (wordsN n) = w := by omega
    simp only [h3, h4, h, h5, or_true, if_true, if_false, Int.sub_self, and_self]
  · have h5 : max w (wordsN n) = wordsN n := by omega
    simp only [h3, h4, h, h5, or_false, if_false, and_true, zerosB_add]
    congr 1
    omega
theorem memCosts_pure (avs : List AV) (h : Fits [argU16, argU16] avs) : Pure Try.prog 14 avs (.bool true) := by
  obtain ⟨_, _, ⟨a, rfl, ha⟩, ⟨_, _, ⟨b, rfl, hb⟩, rfl, rfl⟩, rfl⟩ := h
  refine Pure.by_tree mixed _ 100 _ _ (memCosts_tree a b) ?_
  have e : ∀ x : Nat, x < 65536 → IntKind.wrap .u64 ((Int.tmod (IntKind.wrap .u64 (x : Int)) (4096 : Int)) + (1 : Int)) = ((x % 4096 + 1 : Nat) : Int) := by
    intro x hx
    rw [wrap_id (by omega), Int.tmod_eq_emod_of_nonneg (by omega)]
    exact wrap_add (m := x % 4096) (n := 1) (by omega)
  rw [e a ha, e b hb]
  have hn : a % 4096 + 1 ≤ 4096 := by omega
  have hk : b % 4096 + 1 ≤ 4096 := by omega
  have hn1 : 1 ≤ a % 4096 + 1 := by omega
  have hk1 : 1 ≤ b % 4096 + 1 := by omega
  generalize a % 4096 + 1 = n at *
  generalize b % 4096 + 1 = k at *
  have em : (if ((k : Int) > (n : Int)) then (k : Int) else (n : Int)) = ((max n k : Nat) : Int) := by split <;> omega
  rw [em]
  have e0 : ByteArray.mk (List.toArray []) = zerosB (32 * 0) := rfl
  have z0 : (ofLimbs 0 0 0 0).toNat = 0 := by decide
  obtain ⟨g1, g2, g3⟩ := grow_zeros (w := 0) z0 (ofLimbs_nat (n := n) (by omega)) hn1 hn
  obtain ⟨k1, k2, k3⟩ := grow_zeros (w := 0) z0 (ofLimbs_nat (n := max n k) (by omega)) (by omega) (by omega)
  obtain ⟨f1, f2, f3⟩ := grow_zeros (w := max 0 (wordsN n)) z0 (ofLimbs_nat (n := k) (by omega)) hk1 hk
  rw [e0, g1, f1, k1, g2, f2, k2, g3, k3, f3, zerosB_size, zerosB_size]
  have hw : max (max 0 (wordsN n)) (wordsN k) = max 0 (wordsN (max n k)) := by unfold wordsN; omega
  rw [hw]
  have h0 : costN 0 = 0 := rfl
  have c1 := costN_mono (show max 0 (wordsN n) ≤ max 0 (wordsN (max n k)) by unfold wordsN; omega)
  have c2 := costN_le (max 0 (wordsN (max n k)))
  have hW : max n k ≤ 32 * max 0 (wordsN (max n k)) := by unfold wordsN; omega
  have hW2 : max 0 (wordsN (max n k)) ≤ 200 := by unfold wordsN; omega
  have hW3 : max 0 (wordsN n) ≤ 200 := by unfold wordsN; omega
  have hm : max n k ≤ 4096 := by omega
  rw [h0]
  generalize max n k = M at *
  generalize max 0 (wordsN M) = W at *
  generalize max 0 (wordsN n) = W1 at *
  generalize costN W = C at *
  generalize costN W1 = C1 at *
  have i1 : inR ((n : Nat) : Int) = true := inR_limb (by omega)
  have i2 : inR ((k : Nat) : Int) = true := inR_limb (by omega)
  have i3 : inR ((M : Nat) : Int) = true := inR_limb (by omega)
  have w1 : IntKind.wrap .i64 (((C1 : Nat) : Int) - ((0 : Nat) : Int) + (((C : Nat) : Int) - ((C1 : Nat) : Int))) = ((C : Nat) : Int) - ((0 : Nat) : Int) := by rw [wrap_i64_in (by omega) (by omega)]; omega
  have t1 : Int.tmod ((32 * W : Nat) : Int) 32 = 0 := by rw [Int.tmod_eq_emod_of_nonneg (by omega)]; omega
  rw [i1, i2, i3, w1, t1, wrap_id (n := 32 * W) (by omega)]
  clear g1 g2 g3 k1 k2 k3 f1 f2 f3 hw w1 t1 em e h0 e0 z0
  refine T.yes_ok ?_
  simp [T.yes]
  omega

theorem memCosts_walk : Walk Try.prog 14 Try.f14.params.toList := by
  rw [Try.params14]
  exact Walk.of fi_trucelaw12_MemCosts rfl [argU16, argU16] memCosts_pure

set_option maxRecDepth 100000 in
theorem memCosts_lifted (os : Os) (started : os.Started) (H : Type) (enc : TypeId × Value → H) :
    ReturnsInHanded {} Try.checked os 14 .any (Rows.memCostsSpec.pre6 enc Try.prog Try.f14 Rows.memCostsRow.domain false) (Rows.memCostsSpec.post enc Try.prog Try.f14 false true false false) :=
  lifted_of (s := Rows.memCostsSpec) 14 Try.f14 4 Try.underlying4 (by kernel_rfl) rfl Try.func14 (by kernel_rfl)
      (fun _ ds hl => by
        rw [Try.params14] at hl
        match ds, hl with
        | [_, _], _ => rfl) (by kernel_rfl) memCosts_walk os started H enc
      (ChangeSpec.witness6 (enc := enc) (C := Try.checked) false ⟨#[], #[.int .u16 0, .int .u16 0], []⟩ 8 (by kernel_rfl) (by kernel_rfl) (by kernel_rfl) (by kernel_rfl))

theorem memCosts_holds : Rows.MemCostsSaid :=
  OpenClaim.holds_of_wide 14 Try.f14 rfl rfl rfl rfl rfl rfl rfl ⟨rfl, rfl, rfl, rfl, rfl⟩ rfl rfl rfl rfl rfl (by kernel_rfl) Try.func14 memCosts_closed
    (of_decide_eq_true (by kernel_rfl)) (by unfold Func.isWrapper; first | (rw [if_pos (by decide +kernel)]; kernel_rfl) | (rw [if_neg (by decide +kernel)]; exact ⟨rfl, rfl⟩))
    (fun os started H enc _ => memCosts_lifted os started H enc)
#print axioms memCosts_holds

end Go.Proofs.Ytakmgioeldbkcaa
