/- MemBack: for every two texts and a number the call returns true, nothing that was there turns; each argument reads behind the call as it read before. No conditions. -/
import Derived.Test.YtakmgioeldbkcaaK7
import Derived.Test.YtakmgioeldbkcaaXR
import Derived.Test.YtakmgioeldbkcaaQ15
namespace Go.Proofs.Ytakmgioeldbkcaa
open Go Go.RowKit Go.ChangeShapes

theorem memBack_tree (m s x : ByteArray) (a : Nat) (hx : x.size = m.size) (hm : m.size ≤ 10000) (hs : s.size ≤ 10000) (ha : a < 65536) (hb : ∀ j, j < a ∨ a + s.size ≤ j → byteAt x j = byteAt m j) : (callT (mbX m s x a hx hm hs ha hb) (execT (mbX m s x a hx hm hs ha hb) 100) 17 [.str m, .int .u16 a, .str s] [] [] 0 []).map CR.v =
    (.ite (decide ((((ByteArray.size m) : Nat) : Int) > (10000 : Int)))
     (.leaf (.bool true))
     (.ite (decide ((((ByteArray.size s) : Nat) : Int) > (10000 : Int)))
      (.leaf (.bool true))
      (.ite (decide ((IntKind.wrap .i64 ((IntKind.wrap .i64 ((a : Nat) : Int)) + (((ByteArray.size s) : Nat) : Int))) > (((ByteArray.size m) : Nat) : Int)))
       (.leaf (.bool true))
       (.need (decide ((ByteArray.size m) ≤ 4611686018427387904))
       (.need (decide ((ByteArray.size s) ≤ 4611686018427387904))
       (.need (decide ((IntKind.wrap .i64 ((a : Nat) : Int)) ≤ (4611686018427387904 : Int)))
       (.ite ((((ByteArray.size (putB m (IntKind.wrap .i64 ((a : Nat) : Int)) s)) : Nat) : Int) != (((ByteArray.size m) : Nat) : Int))
        (.leaf (.bool false))
        (.need ((((inR (IntKind.wrap .u64 ((a : Nat) : Int))) && true) && true) && true)
        (.need (decide ((ByteArray.size (putB m (IntKind.wrap .i64 ((a : Nat) : Int)) s)) ≤ 4611686018427387904))
        (.ite (!((ByteArray.toList (sliceB (putB m (IntKind.wrap .i64 ((a : Nat) : Int)) s) (ofLimbs (IntKind.wrap .u64 ((a : Nat) : Int)) (0 : Int) (0 : Int) (0 : Int)) (((ByteArray.size s) : Nat) : Int))) == (ByteArray.toList s)))
         (.leaf (.bool false))
         (.need (decide (m = m))
         (.need (((a : Nat) : Int) == ((a : Nat) : Int))
         (.need (decide (s = s))
         (.need (decide (x = (putB m (IntKind.wrap .i64 ((a : Nat) : Int)) s)))
         (.need ((((ByteArray.size x) : Nat) : Int) == (((ByteArray.size (putB m (IntKind.wrap .i64 ((a : Nat) : Int)) s)) : Nat) : Int))
         (.need true
         (.need true
         (.leaf (.bool true))))))))))))))))))) := by kernel_rfl

theorem memBack0_tree (m s : ByteArray) (a : Nat) : (callT (mbX0) (execT (mbX0) 100) 17 [.str m, .int .u16 a, .str s] [] [] 0 []).map CR.v =
    (.ite (decide ((((ByteArray.size m) : Nat) : Int) > (10000 : Int)))
     (.leaf (.bool true))
     (.ite (decide ((((ByteArray.size s) : Nat) : Int) > (10000 : Int)))
      (.leaf (.bool true))
      (.ite (decide ((IntKind.wrap .i64 ((IntKind.wrap .i64 ((a : Nat) : Int)) + (((ByteArray.size s) : Nat) : Int))) > (((ByteArray.size m) : Nat) : Int)))
       (.leaf (.bool true))
       (.need (decide ((ByteArray.size m) ≤ 4611686018427387904))
       (.need (decide ((ByteArray.size s) ≤ 4611686018427387904))
       (.need (decide ((IntKind.wrap .i64 ((a : Nat) : Int)) ≤ (4611686018427387904 : Int)))
       (.ite ((((ByteArray.size (putB m (IntKind.wrap .i64 ((a : Nat) : Int)) s)) : Nat) : Int) != (((ByteArray.size m) : Nat) : Int))
        (.leaf (.bool false))
        (.need ((((inR (IntKind.wrap .u64 ((a : Nat) : Int))) && true) && true) && true)
        (.need (decide ((ByteArray.size (putB m (IntKind.wrap .i64 ((a : Nat) : Int)) s)) ≤ 4611686018427387904))
        (.ite (!((ByteArray.toList (sliceB (putB m (IntKind.wrap .i64 ((a : Nat) : Int)) s) (ofLimbs (IntKind.wrap .u64 ((a : Nat) : Int)) (0 : Int) (0 : Int) (0 : Int)) (((ByteArray.size s) : Nat) : Int))) == (ByteArray.toList s)))
         (.leaf (.bool false))
         .bad)))))))))) := by kernel_rfl

theorem ofLimbs_nat {n : Nat} (h : n < 18446744073709551616) : (ofLimbs ((n : Nat) : Int) 0 0 0).toNat = n := by
  unfold ofLimbs
  simp only [BitVec.toNat_ofNat, toNat_c]
  omega
theorem put_eq {m s : ByteArray} {a : Nat} (h : a + s.size ≤ m.size) : putB m (a : Int) s = mkB ((toL m).take a ++ toL s ++ (toL m).drop (a + s.size)) := by
  unfold putB
  rw [if_pos (by omega), toNat_c]
theorem put_size {m s : ByteArray} {a : Nat} (h : a + s.size ≤ m.size) : (putB m (a : Int) s).size = m.size := by
  rw [put_eq h, mkB_size]
  simp only [List.length_append, List.length_take, List.length_drop, toL_len]
  omega
theorem put_byte {m s : ByteArray} {a : Nat} (h : a + s.size ≤ m.size) (j : Nat) (hj : j < a ∨ a + s.size ≤ j) : byteAt (putB m (a : Int) s) j = byteAt m j := by
  have e : (toL (putB m (a : Int) s)).getD j 0 = (toL m).getD j 0 := by
    rw [put_eq h, to_mk, List.getD_eq_getElem?_getD, List.getD_eq_getElem?_getD]
    congr 1
    rw [List.append_assoc, List.getElem?_append, List.length_take, toL_len]
    rcases hj with hj | hj
    · rw [if_pos (by omega), List.getElem?_take, if_pos hj]
    · rw [if_neg (by omega), List.getElem?_append, toL_len, if_neg (by omega), List.getElem?_drop]
      congr 1
      omega
  unfold byteAt
  have e : (putB m (a : Int) s).data.toList.getD j 0 = m.data.toList.getD j 0 := e
  rw [e]
theorem put_slice {m s : ByteArray} {a : Nat} (h : a + s.size ≤ m.size) : sliceL (toL (putB m (a : Int) s)) a s.size = toL s := by
  rw [put_eq h, to_mk]
  unfold sliceL
  rw [List.append_assoc, List.drop_append_of_le_length (by rw [List.length_take, toL_len]; omega), List.drop_of_length_le (by rw [List.length_take]; omega), List.nil_append, List.append_assoc, List.take_append_of_le_length (by rw [toL_len]; omega),
    List.take_of_length_le (by rw [toL_len]; omega)]
theorem memBack_pure (avs : List AV) (h : Fits [argStr, argU16, argStr] avs) : Pure Try.prog 17 avs (.bool true) := by
  obtain ⟨_, _, ⟨m, rfl, hm⟩, ⟨_, _, ⟨a, rfl, ha⟩, ⟨_, _, ⟨s, rfl, hs⟩, rfl, rfl⟩, rfl⟩, rfl⟩ := h
  by_cases hc : m.size ≤ 10000 ∧ s.size ≤ 10000 ∧ a + s.size ≤ m.size
  · obtain ⟨c1, c2, c3⟩ := hc
    have hx := put_size c3
    have hb := fun j hj => put_byte c3 j hj
    have hsl := put_slice c3
    refine Pure.by_tree mixed _ 100 _ _ (memBack_tree m s (putB m (a : Int) s) a hx c1 c2 ha hb) ?_
    rw [wrap_i64_id (n := (a : Int)) (by omega) (by omega), wrap_id (by omega), wrapi_add (by omega)]
    have e : sliceB (putB m (a : Int) s) (ofLimbs (a : Int) 0 0 0) (s.size : Int) = s := by
      unfold sliceB
      rw [if_neg (by omega), toNat_c, ofLimbs_nat (by omega), hsl]
      rfl
    have i1 : inR ((a : Nat) : Int) = true := inR_limb (by omega)
    rw [e, hx, i1]
    refine T.yes_ok ?_
    simp [T.yes]
    omega
  · refine Pure.by_tree mixed _ 100 _ _ (memBack0_tree m s a) ?_
    rw [wrap_i64_id (n := (a : Int)) (by omega) (by omega)]
    refine ⟨fun _ => (SameV.bool rfl).r, fun h1 => ⟨fun _ => (SameV.bool rfl).r, fun h2 => ?_⟩⟩
    simp at h1 h2
    rw [wrapi_add (by omega)]
    refine ⟨fun _ => (SameV.bool rfl).r, fun h3 => ?_⟩
    simp at h3
    exact absurd ⟨by omega, by omega, by omega⟩ hc

theorem memBack_walk : Walk Try.prog 17 Try.f17.params.toList := by
  rw [Try.params17]
  exact Walk.of fi_trucelaw12_MemBack rfl [argStr, argU16, argStr] memBack_pure

set_option maxRecDepth 100000 in
theorem memBack_lifted (os : Os) (started : os.Started) (H : Type) (enc : TypeId × Value → H) :
    ReturnsInHanded {} Try.checked os 17 .any (Rows.memBackSpec.pre6 enc Try.prog Try.f17 Rows.memBackRow.domain false) (Rows.memBackSpec.post enc Try.prog Try.f17 false true false false) :=
  lifted_of (s := Rows.memBackSpec) 17 Try.f17 4 Try.underlying4 (by kernel_rfl) rfl Try.func17 (by kernel_rfl)
      (fun _ ds hl => by
        rw [Try.params17] at hl
        match ds, hl with
        | [_, _, _], _ => rfl) (by kernel_rfl) memBack_walk os started H enc
      (ChangeSpec.witness6 (enc := enc) (C := Try.checked) false ⟨#[], #[.string .empty, .int .u16 0, .string .empty], []⟩ 8 (by kernel_rfl) (by kernel_rfl) (by kernel_rfl) (by kernel_rfl))

theorem memBack_holds : Rows.MemBackSaid :=
  OpenClaim.holds_of_wide 17 Try.f17 rfl rfl rfl rfl rfl rfl rfl ⟨rfl, rfl, rfl, rfl, rfl⟩ rfl rfl rfl rfl rfl (by kernel_rfl) Try.func17 memBack_closed
    (of_decide_eq_true (by kernel_rfl)) (by unfold Func.isWrapper; first | (rw [if_pos (by decide +kernel)]; kernel_rfl) | (rw [if_neg (by decide +kernel)]; exact ⟨rfl, rfl⟩))
    (fun os started H enc _ => memBack_lifted os started H enc)
#print axioms memBack_holds

end Go.Proofs.Ytakmgioeldbkcaa
