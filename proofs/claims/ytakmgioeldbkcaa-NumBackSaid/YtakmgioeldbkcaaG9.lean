/- Contracts: how many bits a number has (num.Bits, truceref01.Bits). -/
import Derived.Test.YtakmgioeldbkcaaG8
namespace Go.Proofs.Ytakmgioeldbkcaa
open Go Go.RowKit

noncomputable def X14 (f : Nat) (h t : List (Nat × Bool)) (j : Nat) : EnvX Try.prog := { cs := [c_len64], fis := [fi_num_Bits, fi_truceref01_Bits], lcs := [], br := brAt f 3 j h t }
def bitsV (a : BitVec 256) (j : Nat) : Int := IntKind.i64.wrap (((64 * j : Nat) : Int) + (blen (limb a j).toNat : Int))
theorem num_Bits_run3 (a : BitVec 256) : (callX (X14 52 [(2, false)] [(2, true)] 4) (exec (X14 52 [(2, false)] [(2, true)] 4) 100) 52 [.u a] [] 0).map (fun r => (r.1, r.2.1)) =
    some ([(limb a 3 == 0) == false, inR (limb a 3)], .int .i64 (bitsV a 3)) := by kernel_rfl
theorem ref_Bits_run3 (a : BitVec 256) : (callX (X14 53 [(4, true)] [(4, false)] 3) (exec (X14 53 [(4, true)] [(4, false)] 3) 100) 53 [.u a] [] 0).map (fun r => (r.1, r.2.1)) =
    some ([(limb a 3 != 0) == true, inR (limb a 3)], .int .i64 (bitsV a 3)) := by kernel_rfl
theorem num_Bits_run2 (a : BitVec 256) : (callX (X14 52 [(2, false)] [(2, true)] 3) (exec (X14 52 [(2, false)] [(2, true)] 3) 100) 52 [.u a] [] 0).map (fun r => (r.1, r.2.1)) =
    some ([(limb a 3 == 0) == true, (limb a 2 == 0) == false, inR (limb a 2)], .int .i64 (bitsV a 2)) := by kernel_rfl
theorem ref_Bits_run2 (a : BitVec 256) : (callX (X14 53 [(4, true)] [(4, false)] 2) (exec (X14 53 [(4, true)] [(4, false)] 2) 100) 53 [.u a] [] 0).map (fun r => (r.1, r.2.1)) =
    some ([(limb a 3 != 0) == false, (limb a 2 != 0) == true, inR (limb a 2)], .int .i64 (bitsV a 2)) := by kernel_rfl
theorem num_Bits_run1 (a : BitVec 256) : (callX (X14 52 [(2, false)] [(2, true)] 2) (exec (X14 52 [(2, false)] [(2, true)] 2) 100) 52 [.u a] [] 0).map (fun r => (r.1, r.2.1)) =
    some ([(limb a 3 == 0) == true, (limb a 2 == 0) == true, (limb a 1 == 0) == false, inR (limb a 1)], .int .i64 (bitsV a 1)) := by kernel_rfl
theorem ref_Bits_run1 (a : BitVec 256) : (callX (X14 53 [(4, true)] [(4, false)] 1) (exec (X14 53 [(4, true)] [(4, false)] 1) 100) 53 [.u a] [] 0).map (fun r => (r.1, r.2.1)) =
    some ([(limb a 3 != 0) == false, (limb a 2 != 0) == false, (limb a 1 != 0) == true, inR (limb a 1)], .int .i64 (bitsV a 1)) := by kernel_rfl
theorem num_Bits_run0 (a : BitVec 256) : (callX (X14 52 [(2, false)] [(2, true)] 1) (exec (X14 52 [(2, false)] [(2, true)] 1) 100) 52 [.u a] [] 0).map (fun r => (r.1, r.2.1)) =
    some ([(limb a 3 == 0) == true, (limb a 2 == 0) == true, (limb a 1 == 0) == true, (limb a 0 == 0) == false, inR (limb a 0)], .int .i64 (bitsV a 0)) := by kernel_rfl
theorem ref_Bits_run0 (a : BitVec 256) : (callX (X14 53 [(4, true)] [(4, false)] 0) (exec (X14 53 [(4, true)] [(4, false)] 0) 100) 53 [.u a] [] 0).map (fun r => (r.1, r.2.1)) =
    some ([(limb a 3 != 0) == false, (limb a 2 != 0) == false, (limb a 1 != 0) == false, (limb a 0 != 0) == true, inR (limb a 0)], .int .i64 (bitsV a 0)) := by kernel_rfl
theorem num_Bits_run9 (a : BitVec 256) : (callX (X14 52 [(2, false)] [(2, true)] 0) (exec (X14 52 [(2, false)] [(2, true)] 0) 100) 52 [.u a] [] 0).map (fun r => (r.1, r.2.1)) =
    some ([(limb a 3 == 0) == true, (limb a 2 == 0) == true, (limb a 1 == 0) == true, (limb a 0 == 0) == true, true], .int .i64 0) := by kernel_rfl
theorem ref_Bits_run9 (a : BitVec 256) : (callX (X14 53 [] [(4, false)] 9) (exec (X14 53 [] [(4, false)] 9) 100) 53 [.u a] [] 0).map (fun r => (r.1, r.2.1)) =
    some ([(limb a 3 != 0) == false, (limb a 2 != 0) == false, (limb a 1 != 0) == false, (limb a 0 != 0) == false], .int .i64 0) := by kernel_rfl

theorem blen_nat4 {y k m : Nat} (hy : y ≠ 0) (h : m = y * 2 ^ k + m % 2 ^ k) : blen m = k + blen y := by
  have hk : 0 < 2 ^ k := Nat.two_pow_pos k
  have h1 : m / 2 ^ k = y := by
    rw [Nat.div_eq_iff hk]
    have := Nat.mod_lt m hk
    rw [Nat.mul_comm] at h
    constructor
    · rw [Nat.mul_comm]; omega
    · rw [Nat.mul_comm]; omega
  have h2 : 2 ^ k ≤ m := by
    rcases Nat.lt_or_ge m (2 ^ k) with h3 | h3
    · rw [Nat.div_eq_of_lt h3] at h1; omega
    · exact h3
  have := blen_div h2
  rw [h1] at this
  omega
theorem bitsV_eq {a : BitVec 256} {j y : Nat} (hj : j < 4) (hy : limb a j = y) (hy0 : y ≠ 0) (hlt : y < 18446744073709551616) (h : a.toNat = y * 2 ^ (64 * j) + a.toNat % 2 ^ (64 * j)) : bitsV a j = (blen a.toNat : Int) := by
  unfold bitsV
  have hb : blen y ≤ 64 := blen_le hlt
  rw [hy, Int.toNat_natCast, wrap_i64_id (by omega) (by omega), blen_nat4 hy0 h]
  rfl
theorem four_div (a b c d : Nat) (hb : b < 18446744073709551616) (ha : a < 18446744073709551616) (hc : c < 18446744073709551616) : nat4 a b c d = d * 2 ^ (64 * 3) + nat4 a b c d % 2 ^ (64 * 3) := by unfold nat4; omega
theorem four_div2 (a b c : Nat) (hb : b < 18446744073709551616) (ha : a < 18446744073709551616) : nat4 a b c 0 = c * 2 ^ (64 * 2) + nat4 a b c 0 % 2 ^ (64 * 2) := by unfold nat4; omega
theorem four_div1 (a b : Nat) (ha : a < 18446744073709551616) : nat4 a b 0 0 = b * 2 ^ (64 * 1) + nat4 a b 0 0 % 2 ^ (64 * 1) := by unfold nat4; omega
theorem four_div0 (a : Nat) : nat4 a 0 0 0 = a * 2 ^ (64 * 0) + nat4 a 0 0 0 % 2 ^ (64 * 0) := by unfold nat4; omega
theorem inR_limb {y : Nat} (h : y < 18446744073709551616) : inR (y : Int) = true := by simp only [inR, Bool.and_eq_true, decide_eq_true_eq]; omega
theorem num_Bits_ok (a : BitVec 256) : Pure Try.prog 52 [.u a] (.int .i64 (blen a.toNat)) := by
  obtain ⟨a0, a1, a2, a3, h0, h1, h2, h3, e0, e1, e2, e3, ha⟩ := limbs_nat a
  have ha : a.toNat = nat4 a0 a1 a2 a3 := ha
  by_cases z3 : a3 = 0
  · subst z3
    by_cases z2 : a2 = 0
    · subst z2
      by_cases z1 : a1 = 0
      · subst z1
        by_cases z0 : a0 = 0
        · subst z0
          exact Pure.by_run mixed _ 100 _ _ (num_Bits_run9 a) (by simp [e0, e1, e2, e3]) (SameV.int (by rw [ha]; rfl)).r
        · exact Pure.by_run mixed _ 100 _ _ (num_Bits_run0 a) (by simp [e0, e1, e2, e3, z0, inR_limb h0]) (SameV.int (bitsV_eq (by omega) e0 z0 h0 (by rw [ha]; exact four_div0 _))).r
      · exact Pure.by_run mixed _ 100 _ _ (num_Bits_run1 a) (by simp [e1, e2, e3, z1, inR_limb h1]) (SameV.int (bitsV_eq (by omega) e1 z1 h1 (by rw [ha]; exact four_div1 _ _ h0))).r
    · exact Pure.by_run mixed _ 100 _ _ (num_Bits_run2 a) (by simp [e2, e3, z2, inR_limb h2]) (SameV.int (bitsV_eq (by omega) e2 z2 h2 (by rw [ha]; exact four_div2 _ _ _ h1 h0))).r
  · exact Pure.by_run mixed _ 100 _ _ (num_Bits_run3 a) (by simp [e3, z3, inR_limb h3]) (SameV.int (bitsV_eq (by omega) e3 z3 h3 (by rw [ha]; exact four_div _ _ _ _ h1 h0 h2))).r
noncomputable def c_num_Bits : Ctr Try.prog := Ctr.u1 52 (fun a => .int .i64 (blen a.toNat)) num_Bits_ok
theorem ref_Bits_ok (a : BitVec 256) : Pure Try.prog 53 [.u a] (.int .i64 (blen a.toNat)) := by
  obtain ⟨a0, a1, a2, a3, h0, h1, h2, h3, e0, e1, e2, e3, ha⟩ := limbs_nat a
  have ha : a.toNat = nat4 a0 a1 a2 a3 := ha
  by_cases z3 : a3 = 0
  · subst z3
    by_cases z2 : a2 = 0
    · subst z2
      by_cases z1 : a1 = 0
      · subst z1
        by_cases z0 : a0 = 0
        · subst z0
          exact Pure.by_run mixed _ 100 _ _ (ref_Bits_run9 a) (by simp [e0, e1, e2, e3]) (SameV.int (by rw [ha]; rfl)).r
        · exact Pure.by_run mixed _ 100 _ _ (ref_Bits_run0 a) (by simp [e0, e1, e2, e3, z0, inR_limb h0]) (SameV.int (bitsV_eq (by omega) e0 z0 h0 (by rw [ha]; exact four_div0 _))).r
      · exact Pure.by_run mixed _ 100 _ _ (ref_Bits_run1 a) (by simp [e1, e2, e3, z1, inR_limb h1]) (SameV.int (bitsV_eq (by omega) e1 z1 h1 (by rw [ha]; exact four_div1 _ _ h0))).r
    · exact Pure.by_run mixed _ 100 _ _ (ref_Bits_run2 a) (by simp [e2, e3, z2, inR_limb h2]) (SameV.int (bitsV_eq (by omega) e2 z2 h2 (by rw [ha]; exact four_div2 _ _ _ h1 h0))).r
  · exact Pure.by_run mixed _ 100 _ _ (ref_Bits_run3 a) (by simp [e3, z3, inR_limb h3]) (SameV.int (bitsV_eq (by omega) e3 z3 h3 (by rw [ha]; exact four_div _ _ _ _ h1 h0 h2))).r
noncomputable def c_ref_Bits : Ctr Try.prog := Ctr.u1 53 (fun a => .int .i64 (blen a.toNat)) ref_Bits_ok
end Go.Proofs.Ytakmgioeldbkcaa
