/- The law NumShifts: for every input it returns true; each argument reads behind the call as it read before. -/
import Derived.Test.YtakmgioeldbkcaaG9
import Derived.Test.YtakmgioeldbkcaaXR
namespace Go.Proofs.Ytakmgioeldbkcaa
open Go Go.RowKit Go.ChangeShapes

noncomputable def XN4 (k : Nat) : EnvX Try.prog := { cs := [c_num_And, c_num_Or, c_num_Xor, c_num_Not, c_num_Shl, c_num_Shr, c_num_Bits, c_num_Cmp, c_awake01], fis := [fi_trucelaw01_NumShifts], lcs := [], br := brL [(8, 4, false)], hint := hAll { dec := fun _ => some false } 8 [4] (decAt 8 6), fix := fixAt 8 1 [(7, .int .u64 k)] }
theorem numShifts_run (a b : BitVec 256) (n k : Nat) : (callX (XN4 k) (exec (XN4 k) 100) 8 [.u a, .u b, .int .u64 n] [] 0).map (fun r => (r.1, r.2.1)) =
    some ([((n : Int)).tmod 257 == (k : Int)] ++ List.replicate 2 (inR (k : Int)) ++ [true] ++ List.replicate 3 (decide (↑(blen (a <<< (k : Int).toNat >>> (k : Int).toNat).toNat) > IntKind.i64.wrap (256 - IntKind.i64.wrap (k : Int))) == false) ++ [inR (k : Int)] ++ List.replicate 3 (decide (↑(blen (a <<< (k : Int).toNat >>> (k : Int).toNat).toNat) > IntKind.i64.wrap (256 - IntKind.i64.wrap (k : Int))) == false) ++ [inR (k : Int)] ++ List.replicate 4 (decide (↑(blen (a <<< (k : Int).toNat >>> (k : Int).toNat).toNat) > IntKind.i64.wrap (256 - IntKind.i64.wrap (k : Int))) == false) ++ List.replicate 6 ((!(a <<< (k : Int).toNat >>> (k : Int).toNat <<< (k : Int).toNat ^^^ a <<< (k : Int).toNat == ofLimbs 0 0 0 0)) == false) ++ [(!(a <<< (k : Int).toNat >>> (k : Int).toNat &&& a == a <<< (k : Int).toNat >>> (k : Int).toNat)) == false] ++ List.replicate 9 ((ucmp a b == IntKind.i64.wrap (0 - ucmp b a)) == true) ++ List.replicate 7 (((ucmp a b == 0) == (a == b)) == true) ++ List.replicate 7 ((a ||| ~~~a == ~~~ofLimbs 0 0 0 0) == true) ++ List.replicate 8 ((a &&& ~~~a == ofLimbs 0 0 0 0) == true) ++ List.replicate 2 ((a ^^^ b ^^^ b == a) == true), .bool true) := by kernel_rfl

theorem zero_of : ofLimbs 0 0 0 0 = 0#256 := by decide
theorem up_down_lt (a : BitVec 256) {k : Nat} (hk : k ≤ 256) : blen (a <<< k >>> k).toNat ≤ 256 - k := by
  apply blen_le
  rw [BitVec.toNat_ushiftRight, Nat.shiftRight_eq_div_pow, Nat.div_lt_iff_lt_mul (Nat.two_pow_pos k), ← Nat.pow_add, show 256 - k + k = 256 by omega]
  exact (a <<< k).isLt
theorem up_down_up (a : BitVec 256) (k : Nat) : a <<< k >>> k <<< k = a <<< k := by
  apply BitVec.eq_of_getLsbD_eq
  intro j hj
  simp only [BitVec.getLsbD_shiftLeft, BitVec.getLsbD_ushiftRight]
  by_cases h : j < k
  · simp [h]
  · have h1 : ¬ (k + (j - k) < k) := by omega
    have h2 : k + (j - k) = j := by omega
    simp [h, h2, hj]
theorem up_down_and (a : BitVec 256) (k : Nat) : (a <<< k >>> k) &&& a = a <<< k >>> k := by
  apply BitVec.eq_of_getLsbD_eq
  intro j hj
  simp only [BitVec.getLsbD_and, BitVec.getLsbD_shiftLeft, BitVec.getLsbD_ushiftRight]
  have h2 : k + j - k = j := by omega
  rw [h2]
  cases a.getLsbD j <;> simp
theorem ucmp_swap (a b : BitVec 256) : ucmp a b = IntKind.i64.wrap (0 - ucmp b a) := by
  unfold ucmp
  by_cases h : a = b
  · subst h; rw [if_pos rfl]; rfl
  · have h' : ¬ b = a := fun e => h e.symm
    rw [if_neg h, if_neg h']
    have hne : a.toNat ≠ b.toNat := fun e => h (BitVec.eq_of_toNat_eq e)
    by_cases hl : a.toNat < b.toNat
    · have h1 : uless a b = true := by simp [uless, hl]
      have h2 : uless b a = false := by simp [uless]; omega
      rw [h1, h2]; rfl
    · have h1 : uless a b = false := by simp [uless]; omega
      have h2 : uless b a = true := by simp [uless]; omega
      rw [h1, h2]; rfl
theorem ucmp_zero (a b : BitVec 256) : (ucmp a b == 0) = (a == b) := by
  unfold ucmp
  by_cases h : a = b
  · subst h; simp
  · rw [if_neg h]
    cases uless a b <;> simp [h]
theorem not_or (a : BitVec 256) : (a ||| ~~~a) = ~~~0#256 := by
  ext j hj; simp
theorem not_and (a : BitVec 256) : (a &&& ~~~a) = 0#256 := by
  ext j hj; simp
theorem xor_back (a b : BitVec 256) : (a ^^^ b ^^^ b) = a := by
  ext j hj; simp
theorem numShifts_pure (avs : List AV) (h : Fits [argU, argU, argN] avs) : Pure Try.prog 8 avs (.bool true) := by
  obtain ⟨_, _, ⟨a, rfl⟩, ⟨_, _, ⟨b, rfl⟩, ⟨_, _, ⟨n, rfl, hn⟩, rfl, rfl⟩, rfl⟩, rfl⟩ := h
  obtain ⟨k, hk⟩ : ∃ k, k = n % 257 := ⟨_, rfl⟩
  have h1 : (n : Int).tmod 257 = (k : Int) := by rw [hk]; rfl
  have hk256 : k ≤ 256 := by omega
  have h2 := up_down_lt a hk256
  have h3 : IntKind.i64.wrap (k : Int) = k := wrap_i64_id (by omega) (by omega)
  have h4 : IntKind.i64.wrap (256 - (k : Int)) = 256 - (k : Int) := wrap_i64_id (by omega) (by omega)
  have h5 : decide (((blen (a <<< k >>> k).toNat : Nat) : Int) > 256 - (k : Int)) = false := by
    simp only [decide_eq_false_iff_not]; omega
  refine Pure.by_run mixed (XN4 k) 100 _ _ (numShifts_run a b n k) ?_ (SameV.bool rfl).r
  have o1 : inR (k : Int) = true := inR_limb (by omega)
  have o2 : (ucmp a b == IntKind.i64.wrap (0 - ucmp b a)) = true := by rw [← ucmp_swap]; simp
  simp only [h1, h3, h4, Int.toNat_natCast, zero_of, up_down_up, up_down_and, ucmp_zero, not_or, not_and, xor_back, BitVec.xor_self, o1, o2, h5, beq_self_eq_true]
  simp
theorem numShifts_walk : Walk Try.prog 8 Try.f8.params.toList := by
  rw [Try.params8]
  exact Walk.of fi_trucelaw01_NumShifts rfl [argU, argU, argN] numShifts_pure

set_option maxRecDepth 100000 in
theorem numShifts_lifted (os : Os) (started : os.Started) (H : Type) (enc : TypeId × Value → H) :
    ReturnsInHanded {} Try.checked os 8 .any (Rows.numShiftsSpec.pre6 enc Try.prog Try.f8 Rows.numShiftsRow.domain false) (Rows.numShiftsSpec.post enc Try.prog Try.f8 false true false false) :=
  lifted_of (s := Rows.numShiftsSpec) 8 Try.f8 4 Try.underlying4 (by kernel_rfl) rfl Try.func8 (by kernel_rfl)
      (fun _ ds hl => by
        rw [Try.params8] at hl
        match ds, hl with
        | [_, _, _], _ => rfl) (by kernel_rfl) numShifts_walk os started H enc
      (ChangeSpec.witness6 (enc := enc) (C := Try.checked) false ⟨#[], #[zeroU, zeroU, .int .u64 0], []⟩ 8 (by kernel_rfl) (by kernel_rfl) (by kernel_rfl) (by kernel_rfl))

theorem numShifts_closed : joinedFacts Try.prog 8 Try.f8 Rows.numShiftsSpec Rows.numShiftsRow = true := by kernel_rfl

theorem numShifts_holds : Rows.NumShiftsSaid :=
  OpenClaim.holds_of_wide 8 Try.f8 rfl rfl rfl rfl rfl rfl rfl ⟨rfl, rfl, rfl, rfl, rfl⟩ rfl rfl rfl rfl rfl (by kernel_rfl) Try.func8 numShifts_closed
    (of_decide_eq_true (by kernel_rfl)) (by unfold Func.isWrapper; first | (rw [if_pos (by decide +kernel)]; kernel_rfl) | (rw [if_neg (by decide +kernel)]; exact ⟨rfl, rfl⟩))
    (fun os started H enc _ => numShifts_lifted os started H enc)
#print axioms numShifts_holds

end Go.Proofs.Ytakmgioeldbkcaa
