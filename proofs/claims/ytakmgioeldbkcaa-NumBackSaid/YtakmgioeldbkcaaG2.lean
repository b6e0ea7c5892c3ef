/- Contracts: bit by bit; which is more, by the document; chapter 1's examples. -/
import Derived.Test.YtakmgioeldbkcaaG1
namespace Go.Proofs.Ytakmgioeldbkcaa
open Go Go.RowKit

section
variable {P : Program}
def Ctr.ii (f : Nat) (F : Int → Int → AV) (ok : ∀ x y, Pure P f [.int .u64 x, .int .u64 y] (F x y)) : Ctr P :=
  Ctr.of f (fun | [.int .u64 x, .int .u64 y] => some ([], F x y) | _ => none) (by
    intro args ob v h _
    split at h <;> simp at h
    obtain ⟨_, rfl⟩ := h
    exact ok _ _)

/-- A run that gives 'true'. -/
def okB (r : Option (List Bool × AV × Heap × Nat)) : Bool :=
  match r with
  | some (ob, .bool b, _, _) => ob.all id && b
  | _ => false

theorem Pure.by_true (hm : P.follows .mixedOrders = true) (X : EnvX P) (n f : Nat) (args : List AV) (h : okB (callX X (exec X n) f args [] 0) = true) : Pure P f args (.bool true) := by
  unfold okB at h
  split at h <;> try contradiction
  rename_i ob b H' nk' hr
  simp only [Bool.and_eq_true, List.all_eq_true] at h
  refine Pure.by_run hm X n f args (ob := ob) (v := .bool b) (by rw [hr]; rfl) (fun x hx => h.1 x hx) (SameV.bool h.2).r
end

noncomputable def X3 : EnvX Try.prog := { cs := [], fis := [fi_num_And_1, fi_num_Or_1, fi_num_Xor_1, fi_num_Not_1], lcs := [] }
theorem num_And1_run (x y : Int) : (callX X3 (exec X3 50) 96 [.int .u64 x, .int .u64 y] [] 0).map (fun r => (r.1, r.2.1)) = some ([], .int .u64 (iand .u64 x y)) := by kernel_rfl
theorem num_Or1_run (x y : Int) : (callX X3 (exec X3 50) 97 [.int .u64 x, .int .u64 y] [] 0).map (fun r => (r.1, r.2.1)) = some ([], .int .u64 (ior .u64 x y)) := by kernel_rfl
theorem num_Xor1_run (x y : Int) : (callX X3 (exec X3 50) 98 [.int .u64 x, .int .u64 y] [] 0).map (fun r => (r.1, r.2.1)) = some ([], .int .u64 (ixor .u64 x y)) := by kernel_rfl
theorem num_Not1_run (x y : Int) : (callX X3 (exec X3 50) 99 [.int .u64 x, .int .u64 y] [] 0).map (fun r => (r.1, r.2.1)) = some ([], .int .u64 (ixor .u64 (if IntKind.u64.signed then -1 else IntKind.u64.max) x)) := by kernel_rfl
noncomputable def c_And1 : Ctr Try.prog := Ctr.ii 96 (fun x y => .int .u64 (iand .u64 x y)) (fun x y => Pure.by_run mixed X3 50 _ _ (num_And1_run x y) (by simp) (SameV.int rfl).r)
noncomputable def c_Or1 : Ctr Try.prog := Ctr.ii 97 (fun x y => .int .u64 (ior .u64 x y)) (fun x y => Pure.by_run mixed X3 50 _ _ (num_Or1_run x y) (by simp) (SameV.int rfl).r)
noncomputable def c_Xor1 : Ctr Try.prog := Ctr.ii 98 (fun x y => .int .u64 (ixor .u64 x y)) (fun x y => Pure.by_run mixed X3 50 _ _ (num_Xor1_run x y) (by simp) (SameV.int rfl).r)
noncomputable def c_Not1 : Ctr Try.prog := Ctr.ii 99 (fun x _ => .int .u64 (ixor .u64 (if IntKind.u64.signed then -1 else IntKind.u64.max) x)) (fun x y => Pure.by_run mixed X3 50 _ _ (num_Not1_run x y) (by simp) (SameV.int rfl).r)

noncomputable def X4 : EnvX Try.prog := { cs := [c_And1, c_Or1, c_Xor1, c_Not1], fis := [fi_num_each, fi_num_And, fi_num_Or, fi_num_Xor, fi_num_Not, fi_truceref01_And, fi_truceref01_Or, fi_truceref01_Xor, fi_truceref01_Not], lcs := [] }
def each4 (F : Int → Int → Int) (a b : BitVec 256) : List Int := [F (limb a 0) (limb b 0), F (limb a 1) (limb b 1), F (limb a 2) (limb b 2), F (limb a 3) (limb b 3)]
theorem num_And_run (a b : BitVec 256) : (callX X4 (exec X4 100) 36 [.u a, .u b] [] 0).map (fun r => (r.1, r.2.1)) = some ([], .ints .u64 4 (each4 (iand .u64) a b)) := by kernel_rfl
theorem num_Or_run (a b : BitVec 256) : (callX X4 (exec X4 100) 37 [.u a, .u b] [] 0).map (fun r => (r.1, r.2.1)) = some ([], .ints .u64 4 (each4 (ior .u64) a b)) := by kernel_rfl
theorem num_Xor_run (a b : BitVec 256) : (callX X4 (exec X4 100) 44 [.u a, .u b] [] 0).map (fun r => (r.1, r.2.1)) = some ([], .ints .u64 4 (each4 (ixor .u64) a b)) := by kernel_rfl
theorem num_Not_run (a : BitVec 256) : (callX X4 (exec X4 100) 46 [.u a] [] 0).map (fun r => (r.1, r.2.1)) = some ([], .ints .u64 4 (each4 (fun x _ => ixor .u64 (if IntKind.u64.signed then -1 else IntKind.u64.max) x) a a)) := by kernel_rfl
theorem ref_And_run (a b : BitVec 256) : (callX X4 (exec X4 100) 42 [.u a, .u b] [] 0).map (fun r => (r.1, r.2.1)) = some ([], .ints .u64 4 (each4 (iand .u64) a b)) := by kernel_rfl
theorem ref_Or_run (a b : BitVec 256) : (callX X4 (exec X4 100) 43 [.u a, .u b] [] 0).map (fun r => (r.1, r.2.1)) = some ([], .ints .u64 4 (each4 (ior .u64) a b)) := by kernel_rfl
theorem ref_Xor_run (a b : BitVec 256) : (callX X4 (exec X4 100) 45 [.u a, .u b] [] 0).map (fun r => (r.1, r.2.1)) = some ([], .ints .u64 4 (each4 (ixor .u64) a b)) := by kernel_rfl
theorem ref_Not_run (a : BitVec 256) : (callX X4 (exec X4 100) 47 [.u a] [] 0).map (fun r => (r.1, r.2.1)) = some ([], .ints .u64 4 (each4 (fun x _ => IntKind.u64.wrap (18446744073709551615 - x)) a a)) := by kernel_rfl

/-! ### Parts, bit by bit -/
theorem limb_extract (x : BitVec 256) (i : Nat) : limb x i = ((x.extractLsb' (64 * i) 64).toNat : Int) := by
  simp [limb, BitVec.extractLsb'_toNat, Nat.shiftRight_eq_div_pow]
theorem ofInt_limb (x : BitVec 256) (i : Nat) : BitVec.ofInt 64 (limb x i) = x.extractLsb' (64 * i) 64 := by
  rw [limb_extract, BitVec.ofInt_natCast, BitVec.ofNat_toNat, BitVec.setWidth_eq]
theorem wrap_u64_nat (n : Nat) (h : n < 18446744073709551616) : IntKind.u64.wrap (n : Int) = n := by
  simp [IntKind.wrap, IntKind.signed, IntKind.bits]; omega
theorem iand_limb (a b : BitVec 256) (i : Nat) : iand .u64 (limb a i) (limb b i) = limb (a &&& b) i := by
  unfold iand
  show IntKind.u64.wrap ((BitVec.ofInt 64 (limb a i) &&& BitVec.ofInt 64 (limb b i)).toNat : Int) = _
  rw [wrap_u64_nat _ (BitVec.isLt _), ofInt_limb, ofInt_limb, limb_extract, BitVec.extractLsb'_and]
theorem ior_limb (a b : BitVec 256) (i : Nat) : ior .u64 (limb a i) (limb b i) = limb (a ||| b) i := by
  unfold ior
  show IntKind.u64.wrap ((BitVec.ofInt 64 (limb a i) ||| BitVec.ofInt 64 (limb b i)).toNat : Int) = _
  rw [wrap_u64_nat _ (BitVec.isLt _), ofInt_limb, ofInt_limb, limb_extract, BitVec.extractLsb'_or]
theorem ixor_limb (a b : BitVec 256) (i : Nat) : ixor .u64 (limb a i) (limb b i) = limb (a ^^^ b) i := by
  unfold ixor
  show IntKind.u64.wrap ((BitVec.ofInt 64 (limb a i) ^^^ BitVec.ofInt 64 (limb b i)).toNat : Int) = _
  rw [wrap_u64_nat _ (BitVec.isLt _), ofInt_limb, ofInt_limb, limb_extract, BitVec.extractLsb'_xor]
theorem inot_limb (a : BitVec 256) (i : Nat) (hi : i < 4) : ixor .u64 (if IntKind.u64.signed then -1 else IntKind.u64.max) (limb a i) = limb (~~~ a) i := by
  have hall : BitVec.ofInt 64 IntKind.u64.max = BitVec.allOnes 64 := by decide
  unfold ixor
  show IntKind.u64.wrap ((BitVec.ofInt 64 IntKind.u64.max ^^^ BitVec.ofInt 64 (limb a i)).toNat : Int) = _
  rw [wrap_u64_nat _ (BitVec.isLt _), ofInt_limb, limb_extract, hall]
  congr 1
  congr 1
  ext k hk
  simp only [BitVec.getElem_xor, BitVec.getElem_allOnes, BitVec.getElem_extractLsb', BitVec.getLsbD_not]
  have : 64 * i + k < 256 := by omega
  simp [this]
theorem not_nat (a : BitVec 256) (i : Nat) (hi : i < 4) : IntKind.u64.wrap (18446744073709551615 - limb a i) = limb (~~~ a) i := by
  have h0 := limb_lo a i
  have h1 := limb_hi a i
  rw [← inot_limb a i hi]
  obtain ⟨n, hn⟩ := Int.eq_ofNat_of_zero_le h0
  have hl := ofInt_limb a i
  have hall : BitVec.ofInt 64 IntKind.u64.max = BitVec.allOnes 64 := by decide
  unfold ixor
  show _ = IntKind.u64.wrap ((BitVec.ofInt 64 IntKind.u64.max ^^^ BitVec.ofInt 64 (limb a i)).toNat : Int)
  rw [hall, hn]
  have hlt : n < 18446744073709551616 := by omega
  have e1 : BitVec.ofInt 64 (n : Int) = BitVec.ofNat 64 n := by simp
  have e2 : (BitVec.allOnes 64 ^^^ BitVec.ofNat 64 n).toNat = 18446744073709551615 - n := by
    rw [BitVec.allOnes_xor, BitVec.toNat_not, BitVec.toNat_ofNat]
    omega
  rw [e1, e2]
  congr 1
  omega

theorem num_And_ok (a b : BitVec 256) : Pure Try.prog 36 [.u a, .u b] (.u (a &&& b)) := Pure.by_run mixed X4 100 _ _ (num_And_run a b) (by simp) (SameV.u4 (by simp only [each4, iand_limb])).r
theorem num_Or_ok (a b : BitVec 256) : Pure Try.prog 37 [.u a, .u b] (.u (a ||| b)) := Pure.by_run mixed X4 100 _ _ (num_Or_run a b) (by simp) (SameV.u4 (by simp only [each4, ior_limb])).r
theorem num_Xor_ok (a b : BitVec 256) : Pure Try.prog 44 [.u a, .u b] (.u (a ^^^ b)) := Pure.by_run mixed X4 100 _ _ (num_Xor_run a b) (by simp) (SameV.u4 (by simp only [each4, ixor_limb])).r
theorem num_Not_ok (a : BitVec 256) : Pure Try.prog 46 [.u a] (.u (~~~ a)) :=
  Pure.by_run mixed X4 100 _ _ (num_Not_run a) (by simp) (SameV.u4 (by simp only [each4, inot_limb a 0 (by decide), inot_limb a 1 (by decide), inot_limb a 2 (by decide), inot_limb a 3 (by decide)])).r
theorem ref_And_ok (a b : BitVec 256) : Pure Try.prog 42 [.u a, .u b] (.u (a &&& b)) := Pure.by_run mixed X4 100 _ _ (ref_And_run a b) (by simp) (SameV.u4 (by simp only [each4, iand_limb])).r
theorem ref_Or_ok (a b : BitVec 256) : Pure Try.prog 43 [.u a, .u b] (.u (a ||| b)) := Pure.by_run mixed X4 100 _ _ (ref_Or_run a b) (by simp) (SameV.u4 (by simp only [each4, ior_limb])).r
theorem ref_Xor_ok (a b : BitVec 256) : Pure Try.prog 45 [.u a, .u b] (.u (a ^^^ b)) := Pure.by_run mixed X4 100 _ _ (ref_Xor_run a b) (by simp) (SameV.u4 (by simp only [each4, ixor_limb])).r
theorem ref_Not_ok (a : BitVec 256) : Pure Try.prog 47 [.u a] (.u (~~~ a)) :=
  Pure.by_run mixed X4 100 _ _ (ref_Not_run a) (by simp) (SameV.u4 (by simp only [each4, not_nat a 0 (by decide), not_nat a 1 (by decide), not_nat a 2 (by decide), not_nat a 3 (by decide)])).r
noncomputable def c_num_And : Ctr Try.prog := Ctr.u2 36 (fun a b => .u (a &&& b)) num_And_ok
noncomputable def c_num_Or : Ctr Try.prog := Ctr.u2 37 (fun a b => .u (a ||| b)) num_Or_ok
noncomputable def c_num_Xor : Ctr Try.prog := Ctr.u2 44 (fun a b => .u (a ^^^ b)) num_Xor_ok
noncomputable def c_num_Not : Ctr Try.prog := Ctr.u1 46 (fun a => .u (~~~ a)) num_Not_ok
noncomputable def c_ref_And : Ctr Try.prog := Ctr.u2 42 (fun a b => .u (a &&& b)) ref_And_ok
noncomputable def c_ref_Or : Ctr Try.prog := Ctr.u2 43 (fun a b => .u (a ||| b)) ref_Or_ok
noncomputable def c_ref_Xor : Ctr Try.prog := Ctr.u2 45 (fun a b => .u (a ^^^ b)) ref_Xor_ok
noncomputable def c_ref_Not : Ctr Try.prog := Ctr.u1 47 (fun a => .u (~~~ a)) ref_Not_ok

/-! ### Chapter 1's examples -/
noncomputable def XA1 : EnvX Try.prog := { cs := [cAdd64, cSub64, c_num_Add, c_num_Sub, c_num_Of], fis := [fi_trucelaw01_awake, fi_num_Shl, fi_num_Bits, fi_math_bits_Len64], lcs := [] }
theorem awake01_ok : Pure Try.prog 35 [] (.bool true) := Pure.by_true mixed XA1 200 _ _ (by kernel_rfl)
noncomputable def c_awake01 : Ctr Try.prog := Ctr.z0 35 (.bool true) awake01_ok
end Go.Proofs.Ytakmgioeldbkcaa
