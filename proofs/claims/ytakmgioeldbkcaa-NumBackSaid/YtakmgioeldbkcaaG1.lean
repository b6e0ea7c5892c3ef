/- Contracts: sums, differences, which is more. -/
import Derived.Test.YtakmgioeldbkcaaGF
namespace Go.Proofs.Ytakmgioeldbkcaa
open Go Go.RowKit

noncomputable def cAdd64 : Ctr Try.prog := ctrAdd64 93 Try.func93 (by kernel_rfl) (by kernel_rfl) (by kernel_rfl) (by kernel_rfl)
noncomputable def cSub64 : Ctr Try.prog := ctrSub64 94 Try.func94 (by kernel_rfl) (by kernel_rfl) (by kernel_rfl) (by kernel_rfl)
noncomputable def X1 : EnvX Try.prog := { cs := [cAdd64, cSub64], fis := [fi_num_Add, fi_num_Sub, fi_num_Of, fi_truceref01_Add, fi_truceref01_Sub, fi_truceref01_Of], lcs := [] }

theorem one3 {a b c : Int} (ha : a.toNat ≤ 1) (hb : b.toNat ≤ 1) (hc : c.toNat ≤ 1) : ∀ x ∈ [true, Nat.ble a.toNat 1, Nat.ble b.toNat 1, Nat.ble c.toNat 1], x = true := by
  simp [Nat.ble_eq_true_of_le ha, Nat.ble_eq_true_of_le hb, Nat.ble_eq_true_of_le hc]

def addOut (a b : BitVec 256) : AV := .tup [.u (a + b), .bool (uover a b)]
def subOut (a b : BitVec 256) : AV := .tup [.u (a - b), .bool (uless a b)]

theorem if_beq_one (c : Bool) : ((if c = true then 1 else 0 : Int) == 1) = c := by cases c <;> rfl
theorem if_gt_zero (c : Bool) : decide ((if c = true then 1 else 0 : Int) > 0) = c := by cases c <;> rfl

theorem num_Add_run (a b : BitVec 256) : (callX X1 (exec X1 100) 27 [.u a, .u b] [] 0).map (fun r => (r.1, r.2.1)) =
    some ([true, Nat.ble (ac1 a b).toNat 1, Nat.ble (ac2 a b).toNat 1, Nat.ble (ac3 a b).toNat 1], .tup [.ints .u64 4 (addL a b), .bool (ac4 a b == 1)]) := by kernel_rfl
theorem num_Add_ok (a b : BitVec 256) : Pure Try.prog 27 [.u a, .u b] (addOut a b) := by
  obtain ⟨h1, h2, h3, h4, h5⟩ := add_plain a b
  exact Pure.by_run mixed X1 100 _ _ (num_Add_run a b) (one3 h1 h2 h3) (SameR.tup2 (SameV.u4 h4) (SameV.bool (by rw [h5]; exact if_beq_one _)))
noncomputable def c_num_Add : Ctr Try.prog := Ctr.u2 27 addOut num_Add_ok

theorem ref_Add_run (a b : BitVec 256) : (callX X1 (exec X1 100) 28 [.u a, .u b] [] 0).map (fun r => (r.1, r.2.1)) =
    some ([true, Nat.ble (ac1 a b).toNat 1, Nat.ble (ac2 a b).toNat 1, Nat.ble (ac3 a b).toNat 1], .tup [.ints .u64 4 (addL a b), .bool (decide (ac4 a b > 0))]) := by kernel_rfl
theorem ref_Add_ok (a b : BitVec 256) : Pure Try.prog 28 [.u a, .u b] (addOut a b) := by
  obtain ⟨h1, h2, h3, h4, h5⟩ := add_plain a b
  exact Pure.by_run mixed X1 100 _ _ (ref_Add_run a b) (one3 h1 h2 h3) (SameR.tup2 (SameV.u4 h4) (SameV.bool (by rw [h5]; exact if_gt_zero _)))
noncomputable def c_ref_Add : Ctr Try.prog := Ctr.u2 28 addOut ref_Add_ok

theorem num_Sub_run (a b : BitVec 256) : (callX X1 (exec X1 100) 29 [.u a, .u b] [] 0).map (fun r => (r.1, r.2.1)) =
    some ([true, Nat.ble (sb1 a b).toNat 1, Nat.ble (sb2 a b).toNat 1, Nat.ble (sb3 a b).toNat 1], .tup [.ints .u64 4 (subL a b), .bool (sb4 a b == 1)]) := by kernel_rfl
theorem num_Sub_ok (a b : BitVec 256) : Pure Try.prog 29 [.u a, .u b] (subOut a b) := by
  obtain ⟨h1, h2, h3, h4, h5⟩ := sub_plain a b
  exact Pure.by_run mixed X1 100 _ _ (num_Sub_run a b) (one3 h1 h2 h3) (SameR.tup2 (SameV.u4 h4) (SameV.bool (by rw [h5]; exact if_beq_one _)))
noncomputable def c_num_Sub : Ctr Try.prog := Ctr.u2 29 subOut num_Sub_ok

theorem ref_Sub_run (a b : BitVec 256) : (callX X1 (exec X1 100) 30 [.u a, .u b] [] 0).map (fun r => (r.1, r.2.1)) =
    some ([true, Nat.ble (sb1 a b).toNat 1, Nat.ble (sb2 a b).toNat 1, Nat.ble (sb3 a b).toNat 1], .tup [.ints .u64 4 (subL a b), .bool (decide (sb4 a b > 0))]) := by kernel_rfl
theorem ref_Sub_ok (a b : BitVec 256) : Pure Try.prog 30 [.u a, .u b] (subOut a b) := by
  obtain ⟨h1, h2, h3, h4, h5⟩ := sub_plain a b
  exact Pure.by_run mixed X1 100 _ _ (ref_Sub_run a b) (one3 h1 h2 h3) (SameR.tup2 (SameV.u4 h4) (SameV.bool (by rw [h5]; exact if_gt_zero _)))
noncomputable def c_ref_Sub : Ctr Try.prog := Ctr.u2 30 subOut ref_Sub_ok

theorem ofNat_limbs (n : Nat) (h : n < 18446744073709551616) : [(n : Int), 0, 0, 0] = [limb (BitVec.ofNat 256 n) 0, limb (BitVec.ofNat 256 n) 1, limb (BitVec.ofNat 256 n) 2, limb (BitVec.ofNat 256 n) 3] := by
  have hx : (BitVec.ofNat 256 n).toNat = n + 18446744073709551616 * (0 + 18446744073709551616 * (0 + 18446744073709551616 * 0)) := by
    rw [BitVec.toNat_ofNat]; omega
  obtain ⟨h0, h1, h2, h3⟩ := limb_of h (by omega) (by omega) (by omega) hx
  rw [h0, h1, h2, h3]; rfl

theorem num_Of_run (n : Int) : (callX X1 (exec X1 100) 33 [.int .u64 n] [] 0).map (fun r => (r.1, r.2.1)) = some ([], .ints .u64 4 [n, 0, 0, 0]) := by kernel_rfl
theorem num_Of_ok (n : Nat) (h : n < 18446744073709551616) : Pure Try.prog 33 [.int .u64 n] (.u (BitVec.ofNat 256 n)) :=
  Pure.by_run mixed X1 100 _ _ (num_Of_run n) (by simp) (SameV.u4 (ofNat_limbs n h)).r
noncomputable def c_num_Of : Ctr Try.prog := Ctr.n1 33 (fun n => .u (BitVec.ofNat 256 n)) num_Of_ok
theorem ref_Of_run (n : Int) : (callX X1 (exec X1 100) 34 [.int .u64 n] [] 0).map (fun r => (r.1, r.2.1)) = some ([], .ints .u64 4 [n, 0, 0, 0]) := by kernel_rfl
theorem ref_Of_ok (n : Nat) (h : n < 18446744073709551616) : Pure Try.prog 34 [.int .u64 n] (.u (BitVec.ofNat 256 n)) :=
  Pure.by_run mixed X1 100 _ _ (ref_Of_run n) (by simp) (SameV.u4 (ofNat_limbs n h)).r
noncomputable def c_ref_Of : Ctr Try.prog := Ctr.n1 34 (fun n => .u (BitVec.ofNat 256 n)) ref_Of_ok

/-! ### Which is more -/
def ucmp (a b : BitVec 256) : Int := if a = b then 0 else if uless a b then -1 else 1

noncomputable def X2 (l : List (Nat × Nat × Bool)) : EnvX Try.prog := { cs := [c_num_Sub], fis := [fi_num_Cmp], lcs := [], br := brL l }
theorem num_Cmp_run0 (a b : BitVec 256) : (callX (X2 [(31, 1, true)]) (exec (X2 [(31, 1, true)]) 100) 31 [.u a, .u b] [] 0).map (fun r => (r.1, r.2.1)) =
    some ([(a == b) == true], .int .i64 0) := by kernel_rfl
theorem num_Cmp_run1 (a b : BitVec 256) : (callX (X2 [(31, 1, false), (31, 4, true)]) (exec (X2 [(31, 1, false), (31, 4, true)]) 100) 31 [.u a, .u b] [] 0).map (fun r => (r.1, r.2.1)) =
    some ([(a == b) == false, uless a b == true], .int .i64 (-1)) := by kernel_rfl
theorem num_Cmp_run2 (a b : BitVec 256) : (callX (X2 [(31, 1, false), (31, 4, false)]) (exec (X2 [(31, 1, false), (31, 4, false)]) 100) 31 [.u a, .u b] [] 0).map (fun r => (r.1, r.2.1)) =
    some ([(a == b) == false, uless a b == false], .int .i64 1) := by kernel_rfl
theorem num_Cmp_ok (a b : BitVec 256) : Pure Try.prog 31 [.u a, .u b] (.int .i64 (ucmp a b)) := by
  unfold ucmp
  by_cases h : a = b
  · exact Pure.by_run mixed _ 100 _ _ (num_Cmp_run0 a b) (by simp [h]) (SameV.int (by rw [if_pos h])).r
  · cases hl : uless a b with
    | true => exact Pure.by_run mixed _ 100 _ _ (num_Cmp_run1 a b) (by simp [h, hl]) (SameV.int (by rw [if_neg h, if_pos rfl])).r
    | false => exact Pure.by_run mixed _ 100 _ _ (num_Cmp_run2 a b) (by simp [h, hl]) (SameV.int (by rw [if_neg h, if_neg (by simp)])).r
noncomputable def c_num_Cmp : Ctr Try.prog := Ctr.u2 31 (fun a b => .int .i64 (ucmp a b)) num_Cmp_ok
end Go.Proofs.Ytakmgioeldbkcaa
