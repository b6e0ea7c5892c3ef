/- Texts of this claim, one behind the other. -/
import Derived.Test.YtakmgioeldbkcaaK8
import Derived.Test.YtakmgioeldbkcaaK3

/- Contracts: numbers with signs: negative, below nothing, order. -/
namespace Go.Proofs.Ytakmgioeldbkcaa
open Go Go.RowKit
noncomputable def sgX : EnvT Try.prog := { cs := [c_num_Not, c_num_Of, c_num_Add, c_num_Cmp, c_ref_Sub, c_ref_Bit], fis := [fi_sign_Neg, fi_sign_below, fi_sign_Less, fi_truceref04_Neg, fi_truceref04_below] }
theorem sneg_tree (a : BitVec 256) : (callT (sgX) (execT (sgX) 100) 73 [.u a] [] [] 0 []).map CR.v =
    (.need true
    (.leaf (.u ((~~~ a) + (BitVec.ofNat 256 1))))) := by kernel_rfl
theorem sbelow_tree (a : BitVec 256) : (callT (sgX) (execT (sgX) 100) 114 [.u a] [] [] 0 []).map CR.v =
    (.leaf (.bool ((ishr .u64 (limb a 3) (63 : Int)) == (1 : Int)))) := by kernel_rfl
theorem sless_tree (a b : BitVec 256) : (callT (sgX) (execT (sgX) 100) 69 [.u a, .u b] [] [] 0 []).map CR.v =
    (.need ((((inR (limb a 0)) && (inR (limb a 1))) && (inR (limb a 2))) && (inR (ixor .u64 (limb a 3) (9223372036854775808 : Int))))
    (.need ((((inR (limb b 0)) && (inR (limb b 1))) && (inR (limb b 2))) && (inR (ixor .u64 (limb b 3) (9223372036854775808 : Int))))
    (.leaf (.bool (decide ((ucmp (ofLimbs (limb a 0) (limb a 1) (limb a 2) (ixor .u64 (limb a 3) (9223372036854775808 : Int))) (ofLimbs (limb b 0) (limb b 1) (limb b 2) (ixor .u64 (limb b 3) (9223372036854775808 : Int)))) < (0 : Int))))))) := by kernel_rfl
theorem rneg_tree (a : BitVec 256) : (callT (sgX) (execT (sgX) 100) 74 [.u a] [] [] 0 []).map CR.v =
    (.need true
    (.leaf (.u ((ofLimbs (0 : Int) (0 : Int) (0 : Int) (0 : Int)) - a)))) := by kernel_rfl
theorem rbelow_tree (a : BitVec 256) : (callT (sgX) (execT (sgX) 100) 117 [.u a] [] [] 0 []).map CR.v =
    (.need true
    (.leaf (.bool ((ubit a 255) == (1 : Int))))) := by kernel_rfl
/-- Is it below nothing? -/
def sg (a : BitVec 256) : Bool := decide (2 ^ 255 ≤ a.toNat)
theorem sneg_ok (a : BitVec 256) : Pure Try.prog 73 [.u a] (.u (-a)) := by
  refine Pure.by_tree mixed _ 100 _ _ (sneg_tree a) ⟨rfl, (SameV.u ?_).r⟩
  rw [BitVec.neg_eq_not_add]
theorem rneg_ok (a : BitVec 256) : Pure Try.prog 74 [.u a] (.u (-a)) := by
  refine Pure.by_tree mixed _ 100 _ _ (rneg_tree a) ⟨rfl, (SameV.u ?_).r⟩
  rw [limbsZero, BitVec.zero_sub]
theorem ubit_sg (a : BitVec 256) : (ubit a 255 == (1 : Int)) = sg a := by
  rw [ubit_eq]
  unfold sg
  have := a.isLt
  rw [decide_eq_decide]
  omega
theorem limb_top (a : BitVec 256) : limb a 3 = ((a.toNat / 2 ^ 192 : Nat) : Int) := by
  unfold limb
  have := a.isLt
  omega
theorem ishr_63 {x : Nat} : ishr .u64 (x : Int) 63 = ((x / 2 ^ 63 : Nat) : Int) := by
  unfold ishr
  rw [show min (Int.toNat 63) (IntKind.bits .u64) = 63 from rfl, Int.fdiv_eq_ediv_of_nonneg _ (by decide)]
  omega
theorem shr_sg (a : BitVec 256) : (ishr .u64 (limb a 3) (63 : Int) == (1 : Int)) = sg a := by
  rw [limb_top, ishr_63]
  unfold sg
  have := a.isLt
  rw [Bool.eq_iff_iff, beq_iff_eq, decide_eq_true_iff]
  omega
theorem sbelow_ok (a : BitVec 256) : Pure Try.prog 114 [.u a] (.bool (sg a)) := Pure.by_tree mixed _ 100 _ _ (sbelow_tree a) (SameV.bool (shr_sg a)).r
theorem rbelow_ok (a : BitVec 256) : Pure Try.prog 117 [.u a] (.bool (sg a)) := Pure.by_tree mixed _ 100 _ _ (rbelow_tree a) ⟨rfl, (SameV.bool (ubit_sg a)).r⟩
/-- Where a number stands among those with signs. -/
def skey (a : BitVec 256) : Nat := if sg a = true then a.toNat - 2 ^ 255 else a.toNat + 2 ^ 255
def slessU (a b : BitVec 256) : Bool := decide (skey a < skey b)
theorem add_xor {y k : Nat} (h : y < 2 ^ k) : 2 ^ k ^^^ y = 2 ^ k + y := by
  apply Nat.eq_of_testBit_eq
  intro i
  rw [Nat.testBit_xor, Nat.testBit_two_pow]
  rcases Nat.lt_trichotomy i k with hi | hi | hi
  · have e : decide (k = i) = false := decide_eq_false (by omega)
    rw [Nat.testBit_two_pow_add_gt hi, e, Bool.false_xor]
  · subst hi
    rw [Nat.testBit_two_pow_add_eq, Nat.testBit_lt_two_pow h]
    simp
  · have h1 : y.testBit i = false := Nat.testBit_lt_two_pow (Nat.lt_trans h (Nat.pow_lt_pow_right (by decide) hi))
    have h2 : (2 ^ k + y).testBit i = false := by
      apply Nat.testBit_lt_two_pow
      have : 2 ^ (k + 1) ≤ 2 ^ i := Nat.pow_le_pow_right (by decide) hi
      rw [Nat.pow_succ] at this
      omega
    have e : decide (k = i) = false := decide_eq_false (by omega)
    rw [h1, h2, e, Bool.false_xor]
theorem ixor_63 {x : Nat} (h : x < 18446744073709551616) : ixor .u64 (x : Int) (9223372036854775808 : Int) = (((x + 2 ^ 63) % 2 ^ 64 : Nat) : Int) := by
  unfold ixor
  have e1 : (BitVec.ofInt (IntKind.bits .u64) (x : Int)).toNat = x := by
    show (BitVec.ofInt 64 (x : Int)).toNat = x
    rw [BitVec.ofInt_natCast, BitVec.toNat_ofNat]; omega
  have e2 : (BitVec.ofInt (IntKind.bits .u64) (9223372036854775808 : Int)).toNat = 2 ^ 63 := by decide
  rw [BitVec.toNat_xor, e1, e2]
  have e3 : x ^^^ 2 ^ 63 = (x + 2 ^ 63) % 2 ^ 64 := by
    by_cases hx : x < 2 ^ 63
    · rw [Nat.xor_comm, add_xor hx]; omega
    · have : x = 2 ^ 63 ^^^ (x - 2 ^ 63) := by rw [add_xor (by omega)]; omega
      conv => lhs; rw [this]
      rw [Nat.xor_comm, ← Nat.xor_assoc, Nat.xor_self, Nat.zero_xor]
      omega
  rw [e3, wrap_id (by omega)]
theorem skey_limbs (a : BitVec 256) : (ofLimbs (limb a 0) (limb a 1) (limb a 2) (ixor .u64 (limb a 3) (9223372036854775808 : Int))).toNat = skey a ∧ inR (ixor .u64 (limb a 3) (9223372036854775808 : Int)) = true := by
  have ha := a.isLt
  have h3 : a.toNat / 2 ^ 192 < 18446744073709551616 := by omega
  rw [limb_top, ixor_63 h3]
  refine ⟨?_, inR_limb (by omega)⟩
  unfold ofLimbs limb skey sg
  simp only [BitVec.toNat_ofNat, toNat_c]
  split
  · rename_i hs
    have hs := of_decide_eq_true hs
    omega
  · rename_i hs
    have hs : ¬ 2 ^ 255 ≤ a.toNat := fun h => hs (decide_eq_true h)
    omega
theorem sless_ok (a b : BitVec 256) : Pure Try.prog 69 [.u a, .u b] (.bool (slessU a b)) := by
  refine Pure.by_tree mixed _ 100 _ _ (sless_tree a b) ?_
  obtain ⟨a1, a2⟩ := skey_limbs a
  obtain ⟨b1, b2⟩ := skey_limbs b
  have hl : ∀ (x : BitVec 256) i, inR (limb x i) = true := fun x i => inR_limb (by omega)
  rw [a2, b2, ucmp_neg, a1, b1]
  simp only [hl]
  exact ⟨rfl, rfl, (SameV.bool rfl).r⟩
noncomputable def c_sneg : Ctr Try.prog := Ctr.u1 73 (fun a => .u (-a)) sneg_ok
noncomputable def c_rneg : Ctr Try.prog := Ctr.u1 74 (fun a => .u (-a)) rneg_ok
noncomputable def c_sbelow : Ctr Try.prog := Ctr.u1 114 (fun a => .bool (sg a)) sbelow_ok
noncomputable def c_rbelow : Ctr Try.prog := Ctr.u1 117 (fun a => .bool (sg a)) rbelow_ok
noncomputable def c_sless : Ctr Try.prog := Ctr.u2 69 (fun a b => .bool (slessU a b)) sless_ok
noncomputable def sgX2 : EnvT Try.prog := { cs := [c_sneg, c_rneg, c_sbelow, c_rbelow, c_ref_Cmp], fis := [fi_truceref04_Less, fi_truceref04_size, fi_sign_Div_1] }
end Go.Proofs.Ytakmgioeldbkcaa

/- Contracts: order and quotients of numbers with signs. -/
namespace Go.Proofs.Ytakmgioeldbkcaa
open Go Go.RowKit

theorem rless_tree (a b : BitVec 256) : (callT (sgX2) (execT (sgX2) 100) 75 [.u a, .u b] [] [] 0 []).map CR.v =
    (.ite (!((sg a) == (sg b)))
     (.leaf (.bool (sg a)))
     (.leaf (.bool (decide ((ucmp a b) < (0 : Int)))))) := by kernel_rfl

theorem rsize_tree (a : BitVec 256) : (callT (sgX2) (execT (sgX2) 100) 116 [.u a] [] [] 0 []).map CR.v =
    (.ite (sg a)
     (.leaf (.u (- a)))
     (.leaf (.u a))) := by kernel_rfl

theorem skey_lt (a b : BitVec 256) : slessU a b = if (!(sg a == sg b)) = true then sg a else decide (a.toNat < b.toNat) := by
  unfold slessU skey
  have ha := a.isLt
  have hb := b.isLt
  have e : ∀ x : BitVec 256, sg x = decide (2 ^ 255 ≤ x.toNat) := fun _ => rfl
  cases h1 : sg a <;> cases h2 : sg b
  all_goals
    rw [e, ] at h1 h2
    simp only [decide_eq_true_eq, decide_eq_false_iff_not] at h1 h2
    simp
    try omega
theorem rless_ok (a b : BitVec 256) : Pure Try.prog 75 [.u a, .u b] (.bool (slessU a b)) := by
  refine Pure.by_tree mixed _ 100 _ _ (rless_tree a b) ?_
  rw [skey_lt, ucmp_neg]
  refine ⟨fun h => ?_, fun h => ?_⟩
  · rw [if_pos h]; exact (SameV.bool rfl).r
  · rw [if_neg (by rw [h]; decide)]; exact (SameV.bool rfl).r
noncomputable def c_rless : Ctr Try.prog := Ctr.u2 75 (fun a b => .bool (slessU a b)) rless_ok
/-- Its size. -/
def sabs (a : BitVec 256) : BitVec 256 := if sg a = true then -a else a
def sdivQ (a b : BitVec 256) : BitVec 256 := if (!(sg a == sg b)) = true then -(sabs a / sabs b) else sabs a / sabs b
def sdivR (a b : BitVec 256) : BitVec 256 := if sg a = true then -(remU (sabs a) (sabs b)) else remU (sabs a) (sabs b)
theorem rsize_ok (a : BitVec 256) : Pure Try.prog 116 [.u a] (.u (sabs a)) := by
  refine Pure.by_tree mixed _ 100 _ _ (rsize_tree a) ⟨fun h => ?_, fun h => ?_⟩
  · unfold sabs; rw [if_pos h]; exact (SameV.u rfl).r
  · unfold sabs; rw [if_neg (by simp [h])]; exact (SameV.u rfl).r
noncomputable def c_rsize : Ctr Try.prog := Ctr.u1 116 (fun a => .u (sabs a)) rsize_ok
noncomputable def sdX : EnvT Try.prog := { cs := [c_sneg, c_sbelow, c_num_Div], fis := [fi_sign_Div, fi_sign_Div_1, fi_sign_Div_2] }
theorem sdiv_tree (a b : BitVec 256) : (callD sdX 100 20 71 [.u a, .u b] [] [] 0 []).map CR.v =
    (.ite (sg a)
     (.ite (sg b)
      (.ite (!((sg a) == (sg b)))
       (.ite (sg a)
        (.leaf (.tup [(.u (- ((- a) / (- b)))), (.u (- (remU (- a) (- b))))]))
        (.leaf (.tup [(.u (- ((- a) / (- b)))), (.u (remU (- a) (- b)))])))
       (.ite (sg a)
        (.leaf (.tup [(.u ((- a) / (- b))), (.u (- (remU (- a) (- b))))]))
        (.leaf (.tup [(.u ((- a) / (- b))), (.u (remU (- a) (- b)))]))))
      (.ite (!((sg a) == (sg b)))
       (.ite (sg a)
        (.leaf (.tup [(.u (- ((- a) / b))), (.u (- (remU (- a) b)))]))
        (.leaf (.tup [(.u (- ((- a) / b))), (.u (remU (- a) b))])))
       (.ite (sg a)
        (.leaf (.tup [(.u ((- a) / b)), (.u (- (remU (- a) b)))]))
        (.leaf (.tup [(.u ((- a) / b)), (.u (remU (- a) b))])))))
     (.ite (sg b)
      (.ite (!((sg a) == (sg b)))
       (.ite (sg a)
        (.leaf (.tup [(.u (- (a / (- b)))), (.u (- (remU a (- b))))]))
        (.leaf (.tup [(.u (- (a / (- b)))), (.u (remU a (- b)))])))
       (.ite (sg a)
        (.leaf (.tup [(.u (a / (- b))), (.u (- (remU a (- b))))]))
        (.leaf (.tup [(.u (a / (- b))), (.u (remU a (- b)))]))))
      (.ite (!((sg a) == (sg b)))
       (.ite (sg a)
        (.leaf (.tup [(.u (- (a / b))), (.u (- (remU a b)))]))
        (.leaf (.tup [(.u (- (a / b))), (.u (remU a b))])))
       (.ite (sg a)
        (.leaf (.tup [(.u (a / b)), (.u (- (remU a b)))]))
        (.leaf (.tup [(.u (a / b)), (.u (remU a b))])))))) := by kernel_rfl
theorem sdiv_ok (a b : BitVec 256) : Pure Try.prog 71 [.u a, .u b] (.tup [.u (sdivQ a b), .u (sdivR a b)]) := by
  refine Pure.by_defer mixed _ 100 20 _ _ (sdiv_tree a b) ?_
  unfold sdivQ sdivR sabs
  cases h1 : sg a <;> cases h2 : sg b <;> simp [T.holds] <;> exact SameR.tup2 (SameV.u rfl) (SameV.u rfl)
noncomputable def c_sdiv : Ctr Try.prog := Ctr.u2 71 (fun a b => .tup [.u (sdivQ a b), .u (sdivR a b)]) sdiv_ok
noncomputable def sgX3 : EnvT Try.prog := { cs := [c_sneg, c_rneg, c_sbelow, c_rbelow, c_rsize, c_rdiv, c_num_Cmp, c_num_Of, c_num_Shr, c_num_Not, c_num_Or, c_num_And, c_ref_Shr, c_ref_Not, c_ref_Shl, c_ref_Bytes], fis := [fi_truceref04_Div, fi_sign_Shr, fi_truceref04_Shr, fi_sign_Extend, fi_sign_Byte, fi_truceref04_Byte, fi_truceref04_small] }
end Go.Proofs.Ytakmgioeldbkcaa

/- Contracts: numbers with signs shifted, extended; their bytes. -/
namespace Go.Proofs.Ytakmgioeldbkcaa
open Go Go.RowKit

theorem rsdiv_tree (a b : BitVec 256) : (callT (sgX3) (execT (sgX3) 100) 72 [.u a, .u b] [] [] 0 []).map CR.v =
    (.ite (!((sg a) == (sg b)))
     (.ite (sg a)
      (.leaf (.tup [(.u (- ((sabs a) / (sabs b)))), (.u (- (remU (sabs a) (sabs b))))]))
      (.leaf (.tup [(.u (- ((sabs a) / (sabs b)))), (.u (remU (sabs a) (sabs b)))])))
     (.ite (sg a)
      (.leaf (.tup [(.u ((sabs a) / (sabs b))), (.u (- (remU (sabs a) (sabs b))))]))
      (.leaf (.tup [(.u ((sabs a) / (sabs b))), (.u (remU (sabs a) (sabs b)))])))) := by kernel_rfl

theorem sshr_tree (a : BitVec 256) (n : Nat) : (callT (sgX3) (execT (sgX3) 100) 76 [.u a, .int .u64 (n : Int)] [] [] 0 []).map CR.v =
    (.need (inR ((n : Nat) : Int))
    (.ite (sg a)
     (.need true
     (.need (inR ((n : Nat) : Int))
     (.leaf (.u ((a >>> (Int.toNat ((n : Nat) : Int))) ||| (~~~ ((~~~ (ofLimbs (0 : Int) (0 : Int) (0 : Int) (0 : Int))) >>> (Int.toNat ((n : Nat) : Int)))))))))
     (.leaf (.u (a >>> (Int.toNat ((n : Nat) : Int))))))) := by kernel_rfl

theorem rshr_tree (a : BitVec 256) (n : Nat) : (callT (sgX3) (execT (sgX3) 100) 77 [.u a, .int .u64 (n : Int)] [] [] 0 []).map CR.v =
    (.ite (!(sg a))
     (.need (inR ((n : Nat) : Int))
     (.leaf (.u (a >>> (Int.toNat ((n : Nat) : Int))))))
     (.need (inR ((n : Nat) : Int))
     (.leaf (.u (~~~ ((~~~ a) >>> (Int.toNat ((n : Nat) : Int)))))))) := by kernel_rfl

theorem sext_tree (k a : BitVec 256) : (callT (sgX3) (execT (sgX3) 100) 78 [.u k, .u a] [] [] 0 []).map CR.v =
    (.need true
    (.ite (decide ((ucmp k (BitVec.ofNat 256 31)) ≥ (0 : Int)))
     (.leaf (.u a))
     (.need true
     (.need (inR (IntKind.wrap .u64 ((248 : Int) - (IntKind.wrap .u64 ((8 : Int) * (limb k 0))))))
     (.need (inR (IntKind.wrap .u64 ((IntKind.wrap .u64 ((8 : Int) * (limb k 0))) + (7 : Int))))
     (.ite ((iand .u64 (limb (a >>> (Int.toNat (IntKind.wrap .u64 ((IntKind.wrap .u64 ((8 : Int) * (limb k 0))) + (7 : Int))))) 0) (1 : Int)) == (1 : Int))
      (.leaf (.u (a ||| (~~~ ((~~~ (ofLimbs (0 : Int) (0 : Int) (0 : Int) (0 : Int))) >>> (Int.toNat (IntKind.wrap .u64 ((248 : Int) - (IntKind.wrap .u64 ((8 : Int) * (limb k 0)))))))))))
      (.leaf (.u (a &&& ((~~~ (ofLimbs (0 : Int) (0 : Int) (0 : Int) (0 : Int))) >>> (Int.toNat (IntKind.wrap .u64 ((248 : Int) - (IntKind.wrap .u64 ((8 : Int) * (limb k 0)))))))))))))))) := by kernel_rfl

theorem sbyte_tree (k a : BitVec 256) : (callT (sgX3) (execT (sgX3) 100) 80 [.u k, .u a] [] [] 0 []).map CR.v =
    (.need true
    (.ite (decide ((ucmp k (BitVec.ofNat 256 32)) ≥ (0 : Int)))
     (.leaf (.ints .u64 4 [(0 : Int), (0 : Int), (0 : Int), (0 : Int)]))
     (.need (inR (IntKind.wrap .u64 ((248 : Int) - (IntKind.wrap .u64 ((8 : Int) * (limb k 0))))))
     (.need true
     (.leaf (.u ((a >>> (Int.toNat (IntKind.wrap .u64 ((248 : Int) - (IntKind.wrap .u64 ((8 : Int) * (limb k 0))))))) &&& (BitVec.ofNat 256 255)))))))) := by kernel_rfl

theorem rsmall_tree (a : BitVec 256) (m : Nat) : (callT (sgX3) (execT (sgX3) 100) 118 [.u a, .int .u64 (m : Int)] [] [] 0 []).map CR.v =
    (.ite ((limb a 1) != (0 : Int))
     (.leaf (.tup [(.int .i64 (0 : Int)), (.bool false)]))
     (.ite ((limb a 2) != (0 : Int))
      (.leaf (.tup [(.int .i64 (0 : Int)), (.bool false)]))
      (.ite ((limb a 3) != (0 : Int))
       (.leaf (.tup [(.int .i64 (0 : Int)), (.bool false)]))
       (.ite (decide ((limb a 0) ≥ ((m : Nat) : Int)))
        (.leaf (.tup [(.int .i64 (0 : Int)), (.bool false)]))
        (.leaf (.tup [(.int .i64 (IntKind.wrap .i64 (limb a 0))), (.bool true)])))))) := by kernel_rfl

theorem rsdiv_ok (a b : BitVec 256) : Pure Try.prog 72 [.u a, .u b] (.tup [.u (sdivQ a b), .u (sdivR a b)]) := by
  refine Pure.by_tree mixed _ 100 _ _ (rsdiv_tree a b) ?_
  unfold sdivQ sdivR
  cases h1 : sg a <;> cases h2 : sg b <;> simp [T.holds] <;> exact SameR.tup2 (SameV.u rfl) (SameV.u rfl)
noncomputable def c_rsdiv : Ctr Try.prog := Ctr.u2 72 (fun a b => .tup [.u (sdivQ a b), .u (sdivR a b)]) rsdiv_ok
/-- Shifted down, the sign staying. -/
def sshrU (a : BitVec 256) (n : Nat) : BitVec 256 := if sg a = true then ~~~((~~~ a) >>> n) else a >>> n
theorem sg_bit (x : BitVec 256) : sg x = x.getLsbD 255 := by
  show _ = x.toNat.testBit 255
  rw [Nat.testBit_eq_decide_div_mod_eq]
  unfold sg
  have := x.isLt
  rw [decide_eq_decide]
  omega
theorem ones_bit (n i : Nat) : ((~~~ (0#256)) >>> n : BitVec 256).getLsbD i = decide (n + i < 256) := by
  rw [BitVec.getLsbD_ushiftRight, BitVec.getLsbD_not]
  simp
theorem shr_or (a : BitVec 256) (n : Nat) : (a >>> n) ||| (~~~ ((~~~ (0#256)) >>> n)) = ~~~((~~~ a) >>> n) := by
  apply BitVec.eq_of_getLsbD_eq
  intro i hi
  rw [BitVec.getLsbD_or, BitVec.getLsbD_not, ones_bit, BitVec.getLsbD_not, BitVec.getLsbD_ushiftRight, BitVec.getLsbD_ushiftRight, BitVec.getLsbD_not]
  by_cases h : n + i < 256
  · simp [h, hi]
  · simp [h, hi]
theorem sshr_ok (a : BitVec 256) (n : Nat) (hn : n < 18446744073709551616) : Pure Try.prog 76 [.u a, .int .u64 n] (.u (sshrU a n)) := by
  refine Pure.by_tree mixed _ 100 _ _ (sshr_tree a n) ?_
  rw [toNat_c, inR_limb hn, limbsZero, shr_or]
  refine ⟨rfl, fun h => ⟨rfl, rfl, ?_⟩, fun h => ?_⟩
  · unfold sshrU; rw [if_pos h]; exact (SameV.u rfl).r
  · unfold sshrU; rw [if_neg (by simp [h])]; exact (SameV.u rfl).r
theorem rshr_ok (a : BitVec 256) (n : Nat) (hn : n < 18446744073709551616) : Pure Try.prog 77 [.u a, .int .u64 n] (.u (sshrU a n)) := by
  refine Pure.by_tree mixed _ 100 _ _ (rshr_tree a n) ?_
  rw [toNat_c, inR_limb hn]
  refine ⟨fun h => ⟨rfl, ?_⟩, fun h => ⟨rfl, ?_⟩⟩
  · unfold sshrU; rw [if_neg (by simpa using h)]; exact (SameV.u rfl).r
  · unfold sshrU; rw [if_pos (by simpa using h)]; exact (SameV.u rfl).r
noncomputable def c_sshr : Ctr Try.prog := Ctr.un 76 (fun a n => .u (sshrU a n)) sshr_ok
noncomputable def c_rsshr : Ctr Try.prog := Ctr.un 77 (fun a n => .u (sshrU a n)) rshr_ok
/-- A number that is below a small one. -/
theorem small_limb {a : BitVec 256} {m : Nat} (_hm : m ≤ 1000) : (limb a 1 = 0 ∧ limb a 2 = 0 ∧ limb a 3 = 0 ∧ limb a 0 < (m : Int)) ↔ a.toNat < m := by
  unfold limb
  have := a.isLt
  omega
theorem rsmall_ok (a : BitVec 256) (m : Nat) (hm : m ≤ 1000) : Pure Try.prog 118 [.u a, .int .u64 m] (.tup [.int .i64 (if a.toNat < m then (a.toNat : Int) else 0), .bool (decide (a.toNat < m))]) := by
  refine Pure.by_tree mixed _ 100 _ _ (rsmall_tree a m) ?_
  have hs := small_limb (a := a) hm
  have no : ¬ a.toNat < m → SameR (.tup [.int .i64 0, .bool false]) (.tup [.int .i64 (if a.toNat < m then (a.toNat : Int) else 0), .bool (decide (a.toNat < m))]) := by
    intro h
    rw [if_neg h, decide_eq_false h]
    exact SameR.tup2 (SameV.int rfl) (SameV.bool rfl)
  refine ⟨fun h1 => no (by rw [← hs]; simp at h1; simp [h1]), fun h1 => ⟨fun h2 => no (by rw [← hs]; simp at h2; simp [h2]), fun h2 => ⟨fun h3 => no (by rw [← hs]; simp at h3; simp [h3]), fun h3 => ⟨fun h4 => no (by rw [← hs]; simp at h4; simp; omega), fun h4 => ?_⟩⟩⟩⟩
  have hlt : a.toNat < m := by rw [← hs]; simp at h1 h2 h3 h4; exact ⟨h1, h2, h3, h4⟩
  have hl : limb a 0 = ((a.toNat : Nat) : Int) := by unfold limb; omega
  rw [if_pos hlt, decide_eq_true hlt, hl, wrap_i64_id (by omega) (by omega)]
  exact SameR.tup2 (SameV.int rfl) (SameV.bool rfl)
noncomputable def c_rsmall : Ctr Try.prog := Ctr.of 118 (fun | [.u a, .int .u64 m] => some ([decide (0 ≤ m) && decide (m ≤ 1000)], .tup [.int .i64 (if a.toNat < m.toNat then (a.toNat : Int) else 0), .bool (decide (a.toNat < m.toNat))]) | _ => none) (by
  intro args ob v h hob
  split at h <;> simp only [Option.some.injEq, Prod.mk.injEq, reduceCtorEq] at h
  rename_i a m
  obtain ⟨rfl, rfl⟩ := h
  have := hob (decide (0 ≤ m) && decide (m ≤ 1000)) (by simp)
  simp only [Bool.and_eq_true, decide_eq_true_eq] at this
  obtain ⟨n, rfl⟩ := Int.eq_ofNat_of_zero_le this.1
  exact rsmall_ok a n (by omega))
/-- Extended by the sign of a byte; a byte, the highest is 0. -/
def sextU (k a : BitVec 256) : BitVec 256 := if k.toNat < 31 then sshrU (a <<< (248 - 8 * k.toNat)) (248 - 8 * k.toNat) else a
def sbyteU (k a : BitVec 256) : BitVec 256 := if k.toNat < 32 then BitVec.ofNat 256 (a.toNat / 2 ^ (248 - 8 * k.toNat) % 256) else 0#256
theorem b0_bit (x : BitVec 256) : (iand .u64 (limb x 0) (1 : Int) == (1 : Int)) = x.getLsbD 0 := by
  have := b0_eq x
  unfold b0 at this
  rw [this]
  show _ = x.toNat.testBit 0
  rw [Nat.testBit_zero]
theorem ext_bits (a : BitVec 256) (j : Nat) (hj : j < 31) : sshrU (a <<< (248 - 8 * j)) (248 - 8 * j) = if a.getLsbD (8 * j + 7) = true then a ||| (~~~ ((~~~ (0#256)) >>> (248 - 8 * j))) else a &&& ((~~~ (0#256)) >>> (248 - 8 * j)) := by
  have hsg : sg (a <<< (248 - 8 * j)) = a.getLsbD (8 * j + 7) := by
    have e : 255 - (248 - 8 * j) = 8 * j + 7 := by omega
    rw [sg_bit, BitVec.getLsbD_shiftLeft, e]
    have : ¬ 255 < 248 - 8 * j := by omega
    simp [this]
  unfold sshrU
  rw [hsg]
  generalize hu : 248 - 8 * j = up
  apply BitVec.eq_of_getLsbD_eq
  intro i hi
  have e2 : up + i - up = i := by omega
  split
  · have e3 : (~~~ ((~~~ (0#256)) >>> up)).getLsbD i = (decide (i < 256) && !(decide (up + i < 256))) := by rw [BitVec.getLsbD_not, ones_bit]
    rw [BitVec.getLsbD_or, e3, BitVec.getLsbD_not, BitVec.getLsbD_ushiftRight, BitVec.getLsbD_not, BitVec.getLsbD_shiftLeft, e2]
    by_cases h : up + i < 256
    · simp [h, hi]
    · simp [h, hi]
  · rw [BitVec.getLsbD_and, ones_bit, BitVec.getLsbD_ushiftRight, BitVec.getLsbD_shiftLeft, e2]
    by_cases h : up + i < 256
    · simp [h]
    · simp [h]
theorem small_k {k : BitVec 256} {j : Nat} (h : k.toNat = j) (hj : j < 32) : IntKind.wrap .u64 ((8 : Int) * limb k 0) = ((8 * j : Nat) : Int) := by
  have hl : limb k 0 = ((j : Nat) : Int) := by unfold limb; omega
  rw [hl]
  exact wrap_mul (m := 8) (n := j) (by omega)
theorem sext_ok (k a : BitVec 256) : Pure Try.prog 78 [.u k, .u a] (.u (sextU k a)) := by
  refine Pure.by_tree mixed _ 100 _ _ (sext_tree k a) ?_
  have hc : decide (ucmp k (BitVec.ofNat 256 31) ≥ (0 : Int)) = !(decide (k.toNat < 31)) := by
    have := ucmp_neg (a := k) (b := BitVec.ofNat 256 31)
    rw [show (BitVec.ofNat 256 31).toNat = 31 from rfl] at this
    rw [← this, ← decide_not]
    congr 1
    simp
  rw [hc]
  unfold sextU
  refine ⟨rfl, fun h => ?_, fun h => ?_⟩
  · rw [if_neg (by simpa using h)]; exact (SameV.u rfl).r
  · have hk : k.toNat < 31 := by simpa using h
    obtain ⟨j, hj⟩ : ∃ j, k.toNat = j := ⟨_, rfl⟩
    rw [if_pos hk, small_k hj (by omega), hj]
    rw [hj] at hk
    have w1 : IntKind.wrap .u64 ((248 : Int) - ((8 * j : Nat) : Int)) = ((248 - 8 * j : Nat) : Int) := wrap_sub_u64 (a := 248) (by omega) (by omega)
    have w2 : IntKind.wrap .u64 (((8 * j : Nat) : Int) + 7) = ((8 * j + 7 : Nat) : Int) := wrap_add (n := 7) (by omega)
    rw [w1, w2, toNat_c, toNat_c, b0_bit, BitVec.getLsbD_ushiftRight, limbsZero, inR_limb (by omega), inR_limb (by omega), ext_bits a j hk]
    refine ⟨rfl, rfl, rfl, fun h => ?_, fun h => ?_⟩
    · rw [if_pos h]; exact (SameV.u rfl).r
    · rw [if_neg (by rw [show 8 * j + 7 = 8 * j + 7 + 0 from rfl, h]; decide)]; exact (SameV.u rfl).r
theorem low8 (x : BitVec 256) : x &&& BitVec.ofNat 256 255 = BitVec.ofNat 256 (x.toNat % 256) := by
  apply BitVec.eq_of_toNat_eq
  rw [BitVec.toNat_and, BitVec.toNat_ofNat, BitVec.toNat_ofNat]
  have := Nat.and_two_pow_sub_one_eq_mod x.toNat 8
  rw [show (255 % 2 ^ 256 : Nat) = 2 ^ 8 - 1 from rfl, this]
  omega
theorem sbyte_ok (k a : BitVec 256) : Pure Try.prog 80 [.u k, .u a] (.u (sbyteU k a)) := by
  refine Pure.by_tree mixed _ 100 _ _ (sbyte_tree k a) ?_
  have hc : decide (ucmp k (BitVec.ofNat 256 32) ≥ (0 : Int)) = !(decide (k.toNat < 32)) := by
    have := ucmp_neg (a := k) (b := BitVec.ofNat 256 32)
    rw [show (BitVec.ofNat 256 32).toNat = 32 from rfl] at this
    rw [← this, ← decide_not]
    congr 1
    simp
  rw [hc]
  unfold sbyteU
  refine ⟨rfl, fun h => ?_, fun h => ?_⟩
  · rw [if_neg (by simpa using h)]; exact zeros4.r
  · have hk : k.toNat < 32 := by simpa using h
    obtain ⟨j, hj⟩ : ∃ j, k.toNat = j := ⟨_, rfl⟩
    rw [if_pos hk, small_k hj (by omega), hj]
    rw [hj] at hk
    have w1 : IntKind.wrap .u64 ((248 : Int) - ((8 * j : Nat) : Int)) = ((248 - 8 * j : Nat) : Int) := wrap_sub_u64 (a := 248) (by omega) (by omega)
    rw [w1, toNat_c, inR_limb (by omega), low8]
    refine ⟨rfl, rfl, (SameV.u ?_).r⟩
    rw [BitVec.toNat_ushiftRight, Nat.shiftRight_eq_div_pow]
noncomputable def c_sext : Ctr Try.prog := Ctr.u2 78 (fun k a => .u (sextU k a)) sext_ok
noncomputable def c_sbyte : Ctr Try.prog := Ctr.u2 80 (fun k a => .u (sbyteU k a)) sbyte_ok
noncomputable def sgX4 : EnvT Try.prog := { cs := [c_rsmall, c_rsshr, c_ref_Shl, c_ref_Bytes], fis := [fi_truceref04_Extend, fi_truceref04_Byte] }
end Go.Proofs.Ytakmgioeldbkcaa

/- Contracts: numbers with signs extended, their bytes, by the document. -/
namespace Go.Proofs.Ytakmgioeldbkcaa
open Go Go.RowKit

theorem rsext_tree (k a : BitVec 256) : (callT (sgX4) (execT (sgX4) 100) 79 [.u k, .u a] [] [] 0 []).map CR.v =
    (.need true
    (.ite (!(decide ((BitVec.toNat k) < 31)))
     (.leaf (.u a))
     (.need (inR (IntKind.wrap .u64 (IntKind.wrap .i64 ((8 : Int) * (IntKind.wrap .i64 ((31 : Int) - (if ((BitVec.toNat k) < 31) then (((BitVec.toNat k) : Nat) : Int) else (0 : Int))))))))
     (.need (inR (IntKind.wrap .u64 (IntKind.wrap .i64 ((8 : Int) * (IntKind.wrap .i64 ((31 : Int) - (if ((BitVec.toNat k) < 31) then (((BitVec.toNat k) : Nat) : Int) else (0 : Int))))))))
     (.leaf (.u (sshrU (a <<< (Int.toNat (IntKind.wrap .u64 (IntKind.wrap .i64 ((8 : Int) * (IntKind.wrap .i64 ((31 : Int) - (if ((BitVec.toNat k) < 31) then (((BitVec.toNat k) : Nat) : Int) else (0 : Int))))))))) (Int.toNat (IntKind.wrap .u64 (IntKind.wrap .i64 ((8 : Int) * (IntKind.wrap .i64 ((31 : Int) - (if ((BitVec.toNat k) < 31) then (((BitVec.toNat k) : Nat) : Int) else (0 : Int))))))))))))))) := by kernel_rfl

theorem rsbyte_tree (k a : BitVec 256) : (callT (sgX4) (execT (sgX4) 100) 81 [.u k, .u a] [] [] 0 []).map CR.v =
    (.need true
    (.ite (!(decide ((BitVec.toNat k) < 32)))
     (.leaf (.ints .u64 4 [(0 : Int), (0 : Int), (0 : Int), (0 : Int)]))
     (.need ((decide ((0 : Int) ≤ (if ((BitVec.toNat k) < 32) then (((BitVec.toNat k) : Nat) : Int) else (0 : Int)))) && (decide ((if ((BitVec.toNat k) < 32) then (((BitVec.toNat k) : Nat) : Int) else (0 : Int)) < (((ByteArray.size (ubytes a)) : Nat) : Int))))
     (.leaf (.ints .u64 4 [(IntKind.wrap .u64 (byteAt (ubytes a) (Int.toNat (if ((BitVec.toNat k) < 32) then (((BitVec.toNat k) : Nat) : Int) else (0 : Int))))), (0 : Int), (0 : Int), (0 : Int)]))))) := by kernel_rfl

theorem rsext_ok (k a : BitVec 256) : Pure Try.prog 79 [.u k, .u a] (.u (sextU k a)) := by
  refine Pure.by_tree mixed _ 100 _ _ (rsext_tree k a) ?_
  unfold sextU
  refine ⟨rfl, fun h => ?_, fun h => ?_⟩
  · rw [if_neg (by simpa using h)]; exact (SameV.u rfl).r
  · have hk : k.toNat < 31 := by simpa using h
    rw [if_pos hk]
    simp only [hk, if_true]
    obtain ⟨j, hj⟩ : ∃ j, k.toNat = j := ⟨_, rfl⟩
    rw [hj] at hk ⊢
    have w1 : IntKind.wrap .i64 ((31 : Int) - (j : Int)) = ((31 - j : Nat) : Int) := wrapi_sub (a := 31) (by omega) (by omega)
    have w2 : IntKind.wrap .i64 ((8 : Int) * ((31 - j : Nat) : Int)) = ((248 - 8 * j : Nat) : Int) := by rw [wrap_i64_in (by omega) (by omega)]; omega
    rw [w1, w2, wrap_id (by omega), toNat_c, inR_limb (by omega)]
    exact ⟨rfl, rfl, (SameV.u rfl).r⟩
theorem ubytes_at (a : BitVec 256) {j : Nat} (h : j < 32) : byteAt (ubytes a) j = ((a.toNat / 2 ^ (248 - 8 * j) % 256 : Nat) : Int) := by
  unfold byteAt
  rw [ubytes_list, List.getD, List.getElem?_map, List.getElem?_range h]
  simp only [Option.map_some, Option.getD_some, ubyte_eq a j, Int.toNat_natCast, UInt8.toNat_ofNat']
  have e : (256 : Nat) ^ (31 - j) = 2 ^ (248 - 8 * j) := by
    rw [show (256 : Nat) = 2 ^ 8 from rfl, ← Nat.pow_mul]
    congr 1
    omega
  rw [e]
  omega
theorem one_limb {n : Nat} (h : n < 18446744073709551616) : [((n : Nat) : Int), (0 : Int), (0 : Int), (0 : Int)] = [limb (BitVec.ofNat 256 n) 0, limb (BitVec.ofNat 256 n) 1, limb (BitVec.ofNat 256 n) 2, limb (BitVec.ofNat 256 n) 3] := by
  unfold limb
  simp only [BitVec.toNat_ofNat, List.cons.injEq, and_true]
  omega
theorem rsbyte_ok (k a : BitVec 256) : Pure Try.prog 81 [.u k, .u a] (.u (sbyteU k a)) := by
  refine Pure.by_tree mixed _ 100 _ _ (rsbyte_tree k a) ?_
  unfold sbyteU
  refine ⟨rfl, fun h => ?_, fun h => ?_⟩
  · rw [if_neg (by simpa using h)]; exact zeros4.r
  · have hk : k.toNat < 32 := by simpa using h
    rw [if_pos hk]
    simp only [hk, if_true, ubytes_size]
    rw [toNat_c, ubytes_at a hk, wrap_id (by omega)]
    exact ⟨by simp; omega, (SameV.u4 (one_limb (by omega))).r⟩
noncomputable def c_rsext : Ctr Try.prog := Ctr.u2 79 (fun k a => .u (sextU k a)) rsext_ok
noncomputable def c_rsbyte : Ctr Try.prog := Ctr.u2 81 (fun k a => .u (sbyteU k a)) rsbyte_ok
noncomputable def sgX5 : EnvT Try.prog := { cs := [c_sneg, c_rneg, c_sdiv, c_rsdiv, c_sless, c_rless, c_sshr, c_rsshr, c_sext, c_rsext, c_sbyte, c_rsbyte, c_ref_Add, c_ref_Mul, c_ref_Bytes, c_ref_Shl], fis := [fi_trucelaw04_awake, fi_trucelaw04_awake_1, fi_trucelaw04_SignTells, fi_trucelaw04_SignBack, fi_trucelaw04_SignOrder, fi_trucelaw04_SignBytes] }
end Go.Proofs.Ytakmgioeldbkcaa

/- Contracts: a negative small number. -/
namespace Go.Proofs.Ytakmgioeldbkcaa
open Go Go.RowKit
theorem aw41_tree (n : Nat) : (callT (sgX5) (execT (sgX5) 100) 112 [.int .u64 (n : Int)] [] [] 0 []).map CR.v =
    (.need (((inR ((n : Nat) : Int) && true) && true) && true)
    (.leaf (.u (- (ofLimbs ((n : Nat) : Int) (0 : Int) (0 : Int) (0 : Int)))))) := by kernel_rfl
noncomputable def c_aw41 : Ctr Try.prog := Ctr.n1 112 (fun n => .u (-(ofLimbs ((n : Nat) : Int) (0 : Int) (0 : Int) (0 : Int)))) (fun n hn => by
  refine Pure.by_tree mixed _ 100 _ _ (aw41_tree n) ⟨?_, (SameV.u rfl).r⟩
  rw [inR_limb hn]; rfl)
noncomputable def sgX6 : EnvT Try.prog := { sgX5 with cs := c_aw41 :: sgX5.cs }
end Go.Proofs.Ytakmgioeldbkcaa

/- Contracts: chapter 04's examples. -/
namespace Go.Proofs.Ytakmgioeldbkcaa
open Go Go.RowKit

theorem awake04_tree  : (callT (sgX6) (execT (sgX6) 100) 70 [] [] [] 0 []).map CR.v =
    (.need true
    (.need true
    (.need true
    (.ite true
     (.need true
     (.ite true
      (.need true
      (.need true
      (.ite true
       (.need true
       (.need true
       (.need true
       (.ite true
        (.need true
        (.need true
        (.need true
        (.ite true
         (.need true
         (.leaf (.bool true)))
         (.leaf (.bool false))))))
        (.leaf (.bool false))))))
       (.leaf (.bool false)))))
      (.leaf (.bool false))))
     (.leaf (.bool false)))))) := by kernel_rfl

theorem awake04_ok : Pure Try.prog 70 [] (.bool true) := Pure.by_tree mixed _ 100 _ _ awake04_tree (by
  simp only [T.holds, true_and, forall_const, reduceCtorEq, false_implies, and_true, implies_true]
  exact (SameV.bool rfl).r)
noncomputable def c_awake04 : Ctr Try.prog := Ctr.z0 70 (.bool true) awake04_ok
noncomputable def lawX04 : EnvT Try.prog := { sgX6 with cs := c_awake04 :: sgX6.cs }
end Go.Proofs.Ytakmgioeldbkcaa

/- SignBytes' loop. -/
namespace Go.Proofs.Ytakmgioeldbkcaa
open Go Go.RowKit
noncomputable def sbl_st (a : BitVec 256) (k : Nat) (v1 : Int) : KS := ⟨⟨pat' [(1, (.int .u8 ((k : Nat) : Int))), (2, (.ptr 0 [])), (4, (.bool false)), (5, (.str (ubytes a))), (11, (.int .i64 v1))] 0 68, [(some ⟨24, (.u a), true⟩)], 1⟩, kpat [2, 4] 0 68, [false]⟩
theorem sbl_body (a : BitVec 256) (k : Nat) (v1 : Int) : stepT lawX04 100 fi_trucelaw04_SignBytes [0, 1, 0, 1, 1] [1, 2, 4, 5, 11] 1 (kpat [2, 4] 0 68) [false] (sbl_st a k v1) =
    (.ite (decide (v1 < (32 : Int)))
     (.need ((((inR (IntKind.wrap .u64 v1)) && true) && true) && true)
     (.need ((decide ((0 : Int) ≤ v1)) && (decide (v1 < (((ByteArray.size (ubytes a)) : Nat) : Int))))
     (.need ((((inR (IntKind.wrap .u64 (byteAt (ubytes a) (Int.toNat v1)))) && true) && true) && true)
     (.ite (!((sbyteU (ofLimbs (IntKind.wrap .u64 v1) (0 : Int) (0 : Int) (0 : Int)) a) == (ofLimbs (IntKind.wrap .u64 (byteAt (ubytes a) (Int.toNat v1))) (0 : Int) (0 : Int) (0 : Int))))
      (.leaf (.ret, sbl_st a k v1))
      (.leaf (.normal, sbl_st a k (IntKind.wrap .i64 (v1 + (1 : Int)))))))))
     (.leaf ((.exit 0), sbl_st a k v1))) := by kernel_rfl
theorem sbl_rule {σ : Type} (st : σ → KS) (Inv : σ → Prop) (μ : σ → Nat) (R : Ex → St → Prop) (hH : ∀ v, (st v).s.H.length ≤ 1) (hstep : ∀ v, Inv v → ∃ X : EnvT Try.prog, (stepT X 100 fi_trucelaw04_SignBytes [0, 1, 0, 1, 1] [1, 2, 4, 5, 11] 1 (kpat [2, 4] 0 68) [false] (st v)).holds (Round st Inv μ R v)) (v0 : σ) (h0 : Inv v0) : CodeR Try.prog (.loop (loopAt fi_trucelaw04_SignBytes [0, 1, 0, 1, 1])) (st v0).s R :=
  loop_rule mixed fi_trucelaw04_SignBytes [0, 1, 0, 1, 1] [1, 2, 4, 5, 11] 1 (kpat [2, 4] 0 68) [false] st 100 Inv μ R (loop_sub' (c := loopAt fi_trucelaw04_SignBytes [0, 1, 0, 1, 1]) (by kernel_rfl)) hH hstep v0 h0
-- entry: sbl_st a k (0 : Int)


theorem sblSub : subC fi_trucelaw04_SignBytes.body [0, 1, 0, 1, 1] = some (.loop (loopAt fi_trucelaw04_SignBytes [0, 1, 0, 1, 1])) := loop_sub' (c := loopAt fi_trucelaw04_SignBytes [0, 1, 0, 1, 1]) (by kernel_rfl)
theorem sbyte_at (a : BitVec 256) {i : Nat} (hi : i < 32) : sbyteU (ofLimbs ((i : Nat) : Int) 0 0 0) a = ofLimbs (byteAt (ubytes a) i) 0 0 0 := by
  unfold sbyteU
  rw [oneLimb (by omega), if_pos hi, ubytes_at a hi]
  apply BitVec.eq_of_toNat_eq
  rw [oneLimb (by omega), BitVec.toNat_ofNat]
  omega
theorem sbl_loop (a : BitVec 256) (k : Nat) : CodeR Try.prog (.loop (loopAt fi_trucelaw04_SignBytes [0, 1, 0, 1, 1])) (sbl_st a k 0).s (fun e s' => e = .exit 0 ∧ s' = (sbl_st a k 32).s) := by
  refine sbl_rule (σ := Nat) (fun i => sbl_st a k (i : Nat)) (fun i => i ≤ 32) (fun i => 32 - i) _ (fun _ => Nat.le_refl 1) ?_ 0 (by omega)
  intro i hi
  refine ⟨lawX04, ?_⟩
  rw [sbl_body, wrapi_one (by omega), wrap_id (by omega)]
  refine ⟨fun hc => ?_, fun hc => ?_⟩
  · have hi : i < 32 := by simp at hc; omega
    rw [toNat_c, ubytes_at a hi, wrap_id (by omega), inR_limb (by omega), inR_limb (by omega), sbyte_at a hi, ubytes_at a hi, ubytes_size]
    refine ⟨rfl, by simp; omega, rfl, fun h => ?_, fun _ => ⟨i + 1, by omega, by dsimp only; omega, Sim.refl _⟩⟩
    simp at h
  · have hi : i = 32 := by simp at hc; omega
    subst hi
    exact ⟨rfl, rfl⟩
noncomputable def sblLC (a : BitVec 256) (k : Nat) : LCT Try.prog := LCT.one fi_trucelaw04_SignBytes [0, 1, 0, 1, 1] _ _ (sbl_st a k 32) sblSub (sbl_loop a k)
noncomputable def sblX (a : BitVec 256) (k : Nat) : EnvT Try.prog := { lawX04 with lcs := [sblLC a k] }
end Go.Proofs.Ytakmgioeldbkcaa

/- Numbers with signs: plain laws. -/
namespace Go.Proofs.Ytakmgioeldbkcaa
open Go Go.RowKit
theorem div_back {A B : BitVec 256} (hB : B ≠ 0#256) : (A / B) * B + remU A B = A := by
  have hB' : B.toNat ≠ 0 := fun e => hB (u_zero.2 e)
  apply BitVec.eq_of_toNat_eq
  have h1 := Nat.div_add_mod A.toNat B.toNat
  have h2 := A.isLt
  have h3 : A.toNat / B.toNat * B.toNat ≤ A.toNat := Nat.div_mul_le_self _ _
  rw [BitVec.toNat_add, BitVec.toNat_mul, BitVec.toNat_udiv, remU_nat]
  unfold remD
  rw [if_neg hB', Nat.mod_eq_of_lt (show A.toNat / B.toNat * B.toNat < 2 ^ 256 by omega)]
  rw [Nat.mul_comm] at h1
  rw [h1]
  exact Nat.mod_eq_of_lt h2
theorem sabs_ne {b : BitVec 256} (h : b ≠ 0#256) : sabs b ≠ 0#256 := by
  unfold sabs
  split
  · intro e
    apply h
    have : - -b = 0#256 := by rw [e]; rfl
    rwa [BitVec.neg_neg] at this
  · exact h
theorem sdiv_back {a b : BitVec 256} (h : b ≠ 0#256) : sdivQ a b * b + sdivR a b = a := by
  have h1 := div_back (A := sabs a) (sabs_ne h)
  unfold sdivQ sdivR
  generalize sabs a / sabs b = X at *
  generalize remU (sabs a) (sabs b) = R at *
  unfold sabs at h1
  cases ha : sg a <;> cases hb : sg b <;> simp [ha, hb] at h1 ⊢ <;> grind
theorem sdiv_zero (a : BitVec 256) : sdivQ a 0#256 = 0#256 ∧ sdivR a 0#256 = 0#256 := by
  have h1 : sabs (0#256) = 0#256 := by decide
  have h2 : sabs a / 0#256 = 0#256 := by simp
  have h3 : remU (sabs a) 0#256 = 0#256 := by
    apply BitVec.eq_of_toNat_eq
    rw [remU_nat]; rfl
  unfold sdivQ sdivR
  rw [h1, h2, h3]
  constructor <;> split <;> rfl
theorem ext_shl (a : BitVec 256) (up : Nat) : sshrU (a <<< up) up <<< up = a <<< up := by
  apply BitVec.eq_of_getLsbD_eq
  intro j hj
  rw [BitVec.getLsbD_shiftLeft, BitVec.getLsbD_shiftLeft]
  by_cases h : j < up
  · simp [h]
  · have e : up + (j - up) = j := by omega
    have h2 : j - up < 256 := by omega
    unfold sshrU
    split
    · rw [BitVec.getLsbD_not, BitVec.getLsbD_ushiftRight, e, BitVec.getLsbD_not, BitVec.getLsbD_shiftLeft]
      simp [h, hj, h2]
    · rw [BitVec.getLsbD_ushiftRight, e, BitVec.getLsbD_shiftLeft]
      simp [h, hj]
theorem sext_again (k a : BitVec 256) : sextU k (sextU k a) = sextU k a := by
  unfold sextU
  split
  · rw [ext_shl]
  · rfl
theorem skey_inj {a b : BitVec 256} (h : skey a = skey b) : a = b := by
  apply BitVec.eq_of_toNat_eq
  unfold skey at h
  have ha := a.isLt
  have hb := b.isLt
  have e : ∀ x : BitVec 256, sg x = decide (2 ^ 255 ≤ x.toNat) := fun _ => rfl
  cases h1 : sg a <;> cases h2 : sg b <;> simp [h1, h2] at h <;> rw [e] at h1 h2 <;> simp only [decide_eq_true_eq, decide_eq_false_iff_not] at h1 h2 <;> omega
end Go.Proofs.Ytakmgioeldbkcaa

