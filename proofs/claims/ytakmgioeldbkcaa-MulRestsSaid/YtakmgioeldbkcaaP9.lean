/- MulRests: for every three numbers the call returns true, nothing that was there turns; each argument reads behind the call as it read before. No conditions. -/
import Derived.Test.YtakmgioeldbkcaaK5
import Derived.Test.YtakmgioeldbkcaaXR
namespace Go.Proofs.Ytakmgioeldbkcaa
open Go Go.RowKit Go.ChangeShapes

theorem mulRests_tree (a m r : BitVec 256) : (callT (lawX2b) (execT (lawX2b) 100) 11 [.u a, .u m, .u r] [] [] 0 []).map CR.v =
    (.ite (decide ((ucmp r m) ≥ (0 : Int)))
     (.leaf (.bool true))
     (.ite (uover (a * m) r)
      (.need true
      (.ite ((restU ((wideHi a m) + (ofLimbs (1 : Int) (0 : Int) (0 : Int) (0 : Int))) ((a * m) + r) m) == r)
       (.leaf (.bool true))
       (.leaf (.bool false))))
      (.ite ((restU (wideHi a m) ((a * m) + r) m) == r)
       (.leaf (.bool true))
       (.leaf (.bool false))))) := by kernel_rfl
theorem limbs_one : ofLimbs (1 : Int) (0 : Int) (0 : Int) (0 : Int) = 1#256 := by decide
theorem ucmp_ge {a b : BitVec 256} : (decide (ucmp a b ≥ (0 : Int))) = !(decide (a.toNat < b.toNat)) := by
  rw [← ucmp_neg, ← decide_not]
  congr 1
  simp
theorem rest_prod {h l a m r : BitVec 256} (hr : r.toNat < m.toNat) (he : l.toNat + 2 ^ 256 * h.toNat = a.toNat * m.toNat + r.toNat) : restU h l m = r := by
  apply BitVec.eq_of_toNat_eq
  unfold restU remD
  rw [if_neg (by omega), BitVec.toNat_ofNat, he, Nat.add_comm, Nat.mul_comm, Nat.add_mul_mod_self_left, Nat.mod_eq_of_lt hr, Nat.mod_eq_of_lt r.isLt]
theorem mulRests_law (a m r : BitVec 256) (hr : r.toNat < m.toNat) : (uover (a * m) r = true → restU (wideHi a m + 1#256) ((a * m) + r) m = r) ∧ (uover (a * m) r = false → restU (wideHi a m) ((a * m) + r) m = r) := by
  have h1 := wide_hi_nat a m
  have h2 := BitVec.toNat_mul a m
  have h3 := Nat.mod_add_div (a.toNat * m.toNat) (2 ^ 256)
  have h4 := BitVec.toNat_add (a * m) r
  have h5 := (a * m).isLt
  have h6 := r.isLt
  have h7 := (wideHi a m).isLt
  have hle : a.toNat * m.toNat ≤ (2 ^ 256 - 1) * (2 ^ 256 - 1) := Nat.mul_le_mul (by have := a.isLt; omega) (by have := m.isLt; omega)
  constructor
  · intro ho
    refine rest_prod (a := a) hr ?_
    have ho : 2 ^ 256 ≤ (a * m).toNat + r.toNat := by unfold uover at ho; simpa using ho
    have h8 := BitVec.toNat_add (wideHi a m) 1#256
    rw [show (1#256).toNat = 1 from rfl] at h8
    have h9 : (wideHi a m).toNat + 1 < 2 ^ 256 := by rw [h1]; omega
    rw [Nat.mod_eq_of_lt h9] at h8
    rw [h4, h8]
    omega
  · intro ho
    refine rest_prod (a := a) hr ?_
    have ho : ¬ 2 ^ 256 ≤ (a * m).toNat + r.toNat := by unfold uover at ho; simpa using ho
    rw [h4]
    omega
theorem mulRests_pure (avs : List AV) (h : Fits [argU, argU, argU] avs) : Pure Try.prog 11 avs (.bool true) := by
  obtain ⟨_, _, ⟨a, rfl⟩, ⟨_, _, ⟨m, rfl⟩, ⟨_, _, ⟨r, rfl⟩, rfl, rfl⟩, rfl⟩, rfl⟩ := h
  refine Pure.by_tree mixed _ 100 _ _ (mulRests_tree a m r) ?_
  rw [limbs_one, ucmp_ge]
  refine ⟨fun _ => (SameV.bool rfl).r, fun hc => ?_⟩
  have hr : r.toNat < m.toNat := by simpa using hc
  obtain ⟨l1, l2⟩ := mulRests_law a m r hr
  refine ⟨fun ho => ⟨rfl, fun _ => (SameV.bool rfl).r, fun h => ?_⟩, fun ho => ⟨fun _ => (SameV.bool rfl).r, fun h => ?_⟩⟩
  · rw [l1 ho] at h; simp at h
  · rw [l2 ho] at h; simp at h

theorem mulRests_walk : Walk Try.prog 11 Try.f11.params.toList := by
  rw [Try.params11]
  exact Walk.of fi_trucelaw02_MulRests rfl [argU, argU, argU] mulRests_pure

set_option maxRecDepth 100000 in
theorem mulRests_lifted (os : Os) (started : os.Started) (H : Type) (enc : TypeId × Value → H) :
    ReturnsInHanded {} Try.checked os 11 .any (Rows.mulRestsSpec.pre6 enc Try.prog Try.f11 Rows.mulRestsRow.domain false) (Rows.mulRestsSpec.post enc Try.prog Try.f11 false true false false) :=
  lifted_of (s := Rows.mulRestsSpec) 11 Try.f11 4 Try.underlying4 (by kernel_rfl) rfl Try.func11 (by kernel_rfl)
      (fun _ ds hl => by
        rw [Try.params11] at hl
        match ds, hl with
        | [_, _, _], _ => rfl) (by kernel_rfl) mulRests_walk os started H enc
      (ChangeSpec.witness6 (enc := enc) (C := Try.checked) false ⟨#[], #[zeroU, zeroU, zeroU], []⟩ 8 (by kernel_rfl) (by kernel_rfl) (by kernel_rfl) (by kernel_rfl))

theorem mulRests_closed : joinedFacts Try.prog 11 Try.f11 Rows.mulRestsSpec Rows.mulRestsRow = true := by kernel_rfl

theorem mulRests_holds : Rows.MulRestsSaid :=
  OpenClaim.holds_of_wide 11 Try.f11 rfl rfl rfl rfl rfl rfl rfl ⟨rfl, rfl, rfl, rfl, rfl⟩ rfl rfl rfl rfl rfl (by kernel_rfl) Try.func11 mulRests_closed
    (of_decide_eq_true (by kernel_rfl)) (by unfold Func.isWrapper; first | (rw [if_pos (by decide +kernel)]; kernel_rfl) | (rw [if_neg (by decide +kernel)]; exact ⟨rfl, rfl⟩))
    (fun os started H enc _ => mulRests_lifted os started H enc)
#print axioms mulRests_holds

end Go.Proofs.Ytakmgioeldbkcaa
