/- MemSlices: for every text and three numbers the call returns true, nothing that was there turns; each argument reads behind the call as it read before. No conditions. -/
import Derived.Test.YtakmgioeldbkcaaK7
import Derived.Test.YtakmgioeldbkcaaXR
import Derived.Test.YtakmgioeldbkcaaQ14
namespace Go.Proofs.Ytakmgioeldbkcaa
open Go Go.RowKit Go.ChangeShapes

theorem memSlices_tree (s : ByteArray) (f : BitVec 256) (n k : Int) : (callT (lawX12) (execT (lawX12) 100) 15 [.str s, .u f, .int .u16 n, .int .u16 k] [] [] 0 []).map CR.v =
    (.ite (decide ((((ByteArray.size s) : Nat) : Int) > (10000 : Int)))
     (.leaf (.bool true))
     (.ite ((limb f 1) != (0 : Int))
      (.leaf (.bool true))
      (.ite ((limb f 2) != (0 : Int))
       (.leaf (.bool true))
       (.ite ((limb f 3) != (0 : Int))
        (.leaf (.bool true))
        (.ite (decide ((limb f 0) > (4611686018427387904 : Int)))
         (.leaf (.bool true))
         (.need (decide ((ByteArray.size s) ≤ 4611686018427387904))
         (.need ((((inR (IntKind.wrap .u64 ((limb f 0) + (IntKind.wrap .u64 (Int.tmod (IntKind.wrap .i64 n) (3000 : Int)))))) && true) && true) && true)
         (.need (decide ((ByteArray.size s) ≤ 4611686018427387904))
         (.ite ((((ByteArray.size (sliceB s f (Int.tmod (IntKind.wrap .i64 n) (3000 : Int)))) : Nat) : Int) == (Int.tmod (IntKind.wrap .i64 n) (3000 : Int)))
          (.ite ((((ByteArray.size (sliceB s (ofLimbs (IntKind.wrap .u64 ((limb f 0) + (IntKind.wrap .u64 (Int.tmod (IntKind.wrap .i64 n) (3000 : Int))))) (0 : Int) (0 : Int) (0 : Int)) (Int.tmod (IntKind.wrap .i64 k) (3000 : Int)))) : Nat) : Int) == (Int.tmod (IntKind.wrap .i64 k) (3000 : Int)))
           (.need (decide ((ByteArray.size s) ≤ 4611686018427387904))
           (.need (Nat.ble ((ByteArray.size (sliceB s f (Int.tmod (IntKind.wrap .i64 n) (3000 : Int)))) + (ByteArray.size (sliceB s (ofLimbs (IntKind.wrap .u64 ((limb f 0) + (IntKind.wrap .u64 (Int.tmod (IntKind.wrap .i64 n) (3000 : Int))))) (0 : Int) (0 : Int) (0 : Int)) (Int.tmod (IntKind.wrap .i64 k) (3000 : Int))))) 9223372036854775807)
           (.ite ((ByteArray.toList (sliceB s f (IntKind.wrap .i64 ((Int.tmod (IntKind.wrap .i64 n) (3000 : Int)) + (Int.tmod (IntKind.wrap .i64 k) (3000 : Int)))))) == (ByteArray.toList ((sliceB s f (Int.tmod (IntKind.wrap .i64 n) (3000 : Int))) ++ (sliceB s (ofLimbs (IntKind.wrap .u64 ((limb f 0) + (IntKind.wrap .u64 (Int.tmod (IntKind.wrap .i64 n) (3000 : Int))))) (0 : Int) (0 : Int) (0 : Int)) (Int.tmod (IntKind.wrap .i64 k) (3000 : Int))))))
            (.leaf (.bool true))
            (.leaf (.bool false)))))
           (.leaf (.bool false)))
          (.leaf (.bool false))))))))))) := by kernel_rfl

theorem sliceL_get (l : List UInt8) (f n q : Nat) : (sliceL l f n)[q]? = if q < n then (if f + q < l.length then l[f + q]? else some 0) else none := by
  unfold sliceL
  rw [List.getElem?_take]
  by_cases h : q < n
  · rw [if_pos h, if_pos h, List.getElem?_append, List.length_drop, List.getElem?_drop, List.getElem?_replicate]
    by_cases h2 : f + q < l.length
    · rw [if_pos (by omega), if_pos h2]
    · rw [if_neg (by omega), if_neg h2, if_pos (by omega)]
  · rw [if_neg h, if_neg h]
theorem sliceL_len (l : List UInt8) (f n : Nat) : (sliceL l f n).length = n := by
  unfold sliceL
  rw [List.length_take, List.length_append, List.length_replicate]
  omega
theorem sliceL_add (l : List UInt8) (f i j : Nat) : sliceL l f (i + j) = sliceL l f i ++ sliceL l (f + i) j := by
  apply List.ext_getElem?
  intro q
  rw [List.getElem?_append, sliceL_len, sliceL_get, sliceL_get, sliceL_get]
  by_cases h1 : q < i
  · rw [if_pos (show q < i + j by omega), if_pos h1, if_pos h1]
  · rw [if_neg h1]
    by_cases h2 : q < i + j
    · have e : f + i + (q - i) = f + q := by omega
      rw [if_pos h2, if_pos (show q - i < j by omega), e]
    · rw [if_neg h2, if_neg (show ¬ q - i < j by omega)]
theorem ofLimbs_nat {n : Nat} (h : n < 18446744073709551616) : (ofLimbs ((n : Nat) : Int) 0 0 0).toNat = n := by
  unfold ofLimbs
  simp only [BitVec.toNat_ofNat, toNat_c]
  omega
theorem memSlices_pure (avs : List AV) (h : Fits [argStr, argU, argU16, argU16] avs) : Pure Try.prog 15 avs (.bool true) := by
  obtain ⟨_, _, ⟨s, rfl, hs⟩, ⟨_, _, ⟨f, rfl⟩, ⟨_, _, ⟨a, rfl, ha⟩, ⟨_, _, ⟨b, rfl, hb⟩, rfl, rfl⟩, rfl⟩, rfl⟩, rfl⟩ := h
  refine Pure.by_tree mixed _ 100 _ _ (memSlices_tree s f a b) ?_
  have e : ∀ x : Nat, x < 65536 → Int.tmod (IntKind.wrap .i64 (x : Int)) (3000 : Int) = ((x % 3000 : Nat) : Int) := by
    intro x hx
    rw [wrap_i64_id (by omega) (by omega), Int.tmod_eq_emod_of_nonneg (by omega)]
    omega
  rw [e a ha, e b hb]
  have hi : a % 3000 < 3000 := by omega
  have hj : b % 3000 < 3000 := by omega
  generalize a % 3000 = i at *
  generalize b % 3000 = j at *
  refine ⟨fun _ => (SameV.bool rfl).r, fun c0 => ⟨fun _ => (SameV.bool rfl).r, fun c1 => ⟨fun _ => (SameV.bool rfl).r, fun c2 => ⟨fun _ => (SameV.bool rfl).r, fun c3 => ⟨fun _ => (SameV.bool rfl).r, fun c4 => ?_⟩⟩⟩⟩⟩
  have c0 : s.size ≤ 10000 := by simp at c0; omega
  have c1 : limb f 1 = 0 := by simpa using c1
  have c2 : limb f 2 = 0 := by simpa using c2
  have c3 : limb f 3 = 0 := by simpa using c3
  have c4 : limb f 0 ≤ 4611686018427387904 := by simpa using c4
  have hf : limb f 0 = ((f.toNat : Nat) : Int) := by
    unfold limb at c1 c2 c3 ⊢
    have := f.isLt
    omega
  rw [hf] at c4 ⊢
  have c4 : f.toNat ≤ 4611686018427387904 := by omega
  rw [wrap_id (n := i) (by omega), wrap_add (by omega), wrapi_add (by omega)]
  have hu := ofLimbs_nat (n := f.toNat + i) (by omega)
  have s1 : sliceB s f (i : Int) = mkB (sliceL (toL s) f.toNat i) := by unfold sliceB; rw [if_neg (by omega), toNat_c]
  have s2 : sliceB s (ofLimbs ((f.toNat + i : Nat) : Int) 0 0 0) (j : Int) = mkB (sliceL (toL s) (f.toNat + i) j) := by unfold sliceB; rw [if_neg (by omega), toNat_c, hu]
  have s3 : sliceB s f ((i + j : Nat) : Int) = mkB (sliceL (toL s) f.toNat (i + j)) := by unfold sliceB; rw [if_neg (by omega), toNat_c]
  have s4 : mkB (sliceL (toL s) f.toNat (i + j)) = mkB (sliceL (toL s) f.toNat i) ++ mkB (sliceL (toL s) (f.toNat + i) j) := by
    apply toL_inj
    rw [toL_append, to_mk, to_mk, to_mk, sliceL_add]
  rw [s1, s2, s3, s4, mkB_size, mkB_size, sliceL_len, sliceL_len]
  have i1 : inR ((f.toNat + i : Nat) : Int) = true := inR_limb (by omega)
  rw [i1]
  refine T.yes_ok ?_
  simp [T.yes]
  omega

theorem memSlices_walk : Walk Try.prog 15 Try.f15.params.toList := by
  rw [Try.params15]
  exact Walk.of fi_trucelaw12_MemSlices rfl [argStr, argU, argU16, argU16] memSlices_pure

set_option maxRecDepth 100000 in
theorem memSlices_lifted (os : Os) (started : os.Started) (H : Type) (enc : TypeId × Value → H) :
    ReturnsInHanded {} Try.checked os 15 .any (Rows.memSlicesSpec.pre6 enc Try.prog Try.f15 Rows.memSlicesRow.domain false) (Rows.memSlicesSpec.post enc Try.prog Try.f15 false true false false) :=
  lifted_of (s := Rows.memSlicesSpec) 15 Try.f15 4 Try.underlying4 (by kernel_rfl) rfl Try.func15 (by kernel_rfl)
      (fun _ ds hl => by
        rw [Try.params15] at hl
        match ds, hl with
        | [_, _, _, _], _ => rfl) (by kernel_rfl) memSlices_walk os started H enc
      (ChangeSpec.witness6 (enc := enc) (C := Try.checked) false ⟨#[], #[.string .empty, zeroU, .int .u16 0, .int .u16 0], []⟩ 8 (by kernel_rfl) (by kernel_rfl) (by kernel_rfl) (by kernel_rfl))

theorem memSlices_holds : Rows.MemSlicesSaid :=
  OpenClaim.holds_of_wide 15 Try.f15 rfl rfl rfl rfl rfl rfl rfl ⟨rfl, rfl, rfl, rfl, rfl⟩ rfl rfl rfl rfl rfl (by kernel_rfl) Try.func15 memSlices_closed
    (of_decide_eq_true (by kernel_rfl)) (by unfold Func.isWrapper; first | (rw [if_pos (by decide +kernel)]; kernel_rfl) | (rw [if_neg (by decide +kernel)]; exact ⟨rfl, rfl⟩))
    (fun os started H enc _ => memSlices_lifted os started H enc)
#print axioms memSlices_holds

end Go.Proofs.Ytakmgioeldbkcaa
