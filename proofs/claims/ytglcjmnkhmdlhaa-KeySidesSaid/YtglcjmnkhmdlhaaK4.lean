/- Texts of this claim, one behind the other. -/
import Derived.Test.YtglcjmnkhmdlhaaK3
import Derived.Test.YtglcjmnkhmdlhaaRows
import Derived.Test.YtglcjmnkhmdlhaaK2

/- The functions of the program, as the symbolic run walks into them. -/
namespace Go.Proofs.Ytglcjmnkhmdlhaa
open Go Go.RowKit

theorem mixed : Try.prog.follows .mixedOrders = true := by kernel_rfl
noncomputable def fi_trucelaw07_KeySides : FI Try.prog := FI.of 3 Try.f3 (Try.f3.body.getD .skip) Try.func3 (by kernel_rfl) (by kernel_rfl)
noncomputable def fi_trucelaw07_KeyTells : FI Try.prog := FI.of 4 Try.f4 (Try.f4.body.getD .skip) Try.func4 (by kernel_rfl) (by kernel_rfl)
noncomputable def fi_trucelaw07_KeySmall : FI Try.prog := FI.of 5 Try.f5 (Try.f5.body.getD .skip) Try.func5 (by kernel_rfl) (by kernel_rfl)
noncomputable def fi_trucelaw07_KeySums : FI Try.prog := FI.of 6 Try.f6 (Try.f6.body.getD .skip) Try.func6 (by kernel_rfl) (by kernel_rfl)
noncomputable def fi_key_Public : FI Try.prog := FI.of 7 Try.f7 (Try.f7.body.getD .skip) Try.func7 (by kernel_rfl) (by kernel_rfl)
noncomputable def fi_key_Fit : FI Try.prog := FI.of 8 Try.f8 (Try.f8.body.getD .skip) Try.func8 (by kernel_rfl) (by kernel_rfl)
noncomputable def fi_trucelaw07_awake : FI Try.prog := FI.of 9 Try.f9 (Try.f9.body.getD .skip) Try.func9 (by kernel_rfl) (by kernel_rfl)
noncomputable def fi_truceref01_Sub : FI Try.prog := FI.of 10 Try.f10 (Try.f10.body.getD .skip) Try.func10 (by kernel_rfl) (by kernel_rfl)
noncomputable def fi_truceref06_Order : FI Try.prog := FI.of 11 Try.f11 (Try.f11.body.getD .skip) Try.func11 (by kernel_rfl) (by kernel_rfl)
noncomputable def fi_truceref06_On : FI Try.prog := FI.of 12 Try.f12 (Try.f12.body.getD .skip) Try.func12 (by kernel_rfl) (by kernel_rfl)
noncomputable def fi_truceref06_Neg : FI Try.prog := FI.of 13 Try.f13 (Try.f13.body.getD .skip) Try.func13 (by kernel_rfl) (by kernel_rfl)
noncomputable def fi_truceref07_Public : FI Try.prog := FI.of 14 Try.f14 (Try.f14.body.getD .skip) Try.func14 (by kernel_rfl) (by kernel_rfl)
noncomputable def fi_key_Who : FI Try.prog := FI.of 15 Try.f15 (Try.f15.body.getD .skip) Try.func15 (by kernel_rfl) (by kernel_rfl)
noncomputable def fi_truceref07_Who : FI Try.prog := FI.of 16 Try.f16 (Try.f16.body.getD .skip) Try.func16 (by kernel_rfl) (by kernel_rfl)
noncomputable def fi_truceref07_Fit : FI Try.prog := FI.of 17 Try.f17 (Try.f17.body.getD .skip) Try.func17 (by kernel_rfl) (by kernel_rfl)
noncomputable def fi_key_Small : FI Try.prog := FI.of 18 Try.f18 (Try.f18.body.getD .skip) Try.func18 (by kernel_rfl) (by kernel_rfl)
noncomputable def fi_truceref07_Small : FI Try.prog := FI.of 19 Try.f19 (Try.f19.body.getD .skip) Try.func19 (by kernel_rfl) (by kernel_rfl)
noncomputable def fi_key_Address : FI Try.prog := FI.of 20 Try.f20 (Try.f20.body.getD .skip) Try.func20 (by kernel_rfl) (by kernel_rfl)
noncomputable def fi_truceref07_Address : FI Try.prog := FI.of 21 Try.f21 (Try.f21.body.getD .skip) Try.func21 (by kernel_rfl) (by kernel_rfl)
noncomputable def fi_truceref01_Add : FI Try.prog := FI.of 22 Try.f22 (Try.f22.body.getD .skip) Try.func22 (by kernel_rfl) (by kernel_rfl)
noncomputable def fi_truceref01_Cmp : FI Try.prog := FI.of 23 Try.f23 (Try.f23.body.getD .skip) Try.func23 (by kernel_rfl) (by kernel_rfl)
noncomputable def fi_truceref06_Add : FI Try.prog := FI.of 24 Try.f24 (Try.f24.body.getD .skip) Try.func24 (by kernel_rfl) (by kernel_rfl)
noncomputable def fi_curve_Mul : FI Try.prog := FI.of 25 Try.f25 (Try.f25.body.getD .skip) Try.func25 (by kernel_rfl) (by kernel_rfl)
noncomputable def fi_curve_Base : FI Try.prog := FI.of 26 Try.f26 (Try.f26.body.getD .skip) Try.func26 (by kernel_rfl) (by kernel_rfl)
noncomputable def fi_key_Fit_1 : FI Try.prog := FI.of 27 Try.f27 (Try.f27.body.getD .skip) Try.func27 (by kernel_rfl) (by kernel_rfl)
noncomputable def fi_key_Fit_2 : FI Try.prog := FI.of 28 Try.f28 (Try.f28.body.getD .skip) Try.func28 (by kernel_rfl) (by kernel_rfl)
noncomputable def fi_num_Cmp : FI Try.prog := FI.of 29 Try.f29 (Try.f29.body.getD .skip) Try.func29 (by kernel_rfl) (by kernel_rfl)
noncomputable def fi_curve_Order : FI Try.prog := FI.of 30 Try.f30 (Try.f30.body.getD .skip) Try.func30 (by kernel_rfl) (by kernel_rfl)
noncomputable def fi_key_all : FI Try.prog := FI.of 31 Try.f31 (Try.f31.body.getD .skip) Try.func31 (by kernel_rfl) (by kernel_rfl)
noncomputable def fi_truceref06_Prime : FI Try.prog := FI.of 33 Try.f33 (Try.f33.body.getD .skip) Try.func33 (by kernel_rfl) (by kernel_rfl)
noncomputable def fi_truceref06_times : FI Try.prog := FI.of 34 Try.f34 (Try.f34.body.getD .skip) Try.func34 (by kernel_rfl) (by kernel_rfl)
noncomputable def fi_truceref06_side : FI Try.prog := FI.of 35 Try.f35 (Try.f35.body.getD .skip) Try.func35 (by kernel_rfl) (by kernel_rfl)
noncomputable def fi_truceref06_minus : FI Try.prog := FI.of 36 Try.f36 (Try.f36.body.getD .skip) Try.func36 (by kernel_rfl) (by kernel_rfl)
noncomputable def fi_truceref06_Mul : FI Try.prog := FI.of 37 Try.f37 (Try.f37.body.getD .skip) Try.func37 (by kernel_rfl) (by kernel_rfl)
noncomputable def fi_truceref06_Base : FI Try.prog := FI.of 38 Try.f38 (Try.f38.body.getD .skip) Try.func38 (by kernel_rfl) (by kernel_rfl)
noncomputable def fi_num_Add : FI Try.prog := FI.of 39 Try.f39 (Try.f39.body.getD .skip) Try.func39 (by kernel_rfl) (by kernel_rfl)
noncomputable def fi_num_Of : FI Try.prog := FI.of 40 Try.f40 (Try.f40.body.getD .skip) Try.func40 (by kernel_rfl) (by kernel_rfl)
noncomputable def fi_hash_Sum : FI Try.prog := FI.of 41 Try.f41 (Try.f41.body.getD .skip) Try.func41 (by kernel_rfl) (by kernel_rfl)
noncomputable def fi_num_Bytes : FI Try.prog := FI.of 42 Try.f42 (Try.f42.body.getD .skip) Try.func42 (by kernel_rfl) (by kernel_rfl)
noncomputable def fi_truceref05_Sum : FI Try.prog := FI.of 43 Try.f43 (Try.f43.body.getD .skip) Try.func43 (by kernel_rfl) (by kernel_rfl)
noncomputable def fi_truceref01_Bytes : FI Try.prog := FI.of 44 Try.f44 (Try.f44.body.getD .skip) Try.func44 (by kernel_rfl) (by kernel_rfl)
noncomputable def fi_truceref06_flat : FI Try.prog := FI.of 46 Try.f46 (Try.f46.body.getD .skip) Try.func46 (by kernel_rfl) (by kernel_rfl)
noncomputable def fi_truceref06_join : FI Try.prog := FI.of 47 Try.f47 (Try.f47.body.getD .skip) Try.func47 (by kernel_rfl) (by kernel_rfl)
noncomputable def fi_curve_spread : FI Try.prog := FI.of 48 Try.f48 (Try.f48.body.getD .skip) Try.func48 (by kernel_rfl) (by kernel_rfl)
noncomputable def fi_curve_doubles : FI Try.prog := FI.of 49 Try.f49 (Try.f49.body.getD .skip) Try.func49 (by kernel_rfl) (by kernel_rfl)
noncomputable def fi_curve_triple_add : FI Try.prog := FI.of 50 Try.f50 (Try.f50.body.getD .skip) Try.func50 (by kernel_rfl) (by kernel_rfl)
noncomputable def fi_curve_triple_flat : FI Try.prog := FI.of 51 Try.f51 (Try.f51.body.getD .skip) Try.func51 (by kernel_rfl) (by kernel_rfl)
noncomputable def fi_num_Sub : FI Try.prog := FI.of 52 Try.f52 (Try.f52.body.getD .skip) Try.func52 (by kernel_rfl) (by kernel_rfl)
noncomputable def fi_key_all_1 : FI Try.prog := FI.of 53 Try.f53 (Try.f53.body.getD .skip) Try.func53 (by kernel_rfl) (by kernel_rfl)
noncomputable def fi_truceref02_Wide : FI Try.prog := FI.of 54 Try.f54 (Try.f54.body.getD .skip) Try.func54 (by kernel_rfl) (by kernel_rfl)
noncomputable def fi_math_bits_Mul64 : FI Try.prog := FI.of 55 Try.f55 (Try.f55.body.getD .skip) Try.func55 (by kernel_rfl) (by kernel_rfl)
noncomputable def fi_truceref06_plus : FI Try.prog := FI.of 56 Try.f56 (Try.f56.body.getD .skip) Try.func56 (by kernel_rfl) (by kernel_rfl)
noncomputable def fi_truceref01_Bits : FI Try.prog := FI.of 57 Try.f57 (Try.f57.body.getD .skip) Try.func57 (by kernel_rfl) (by kernel_rfl)
noncomputable def fi_truceref06_double : FI Try.prog := FI.of 58 Try.f58 (Try.f58.body.getD .skip) Try.func58 (by kernel_rfl) (by kernel_rfl)
noncomputable def fi_truceref01_Bit : FI Try.prog := FI.of 59 Try.f59 (Try.f59.body.getD .skip) Try.func59 (by kernel_rfl) (by kernel_rfl)
noncomputable def fi_hash_blocks : FI Try.prog := FI.of 60 Try.f60 (Try.f60.body.getD .skip) Try.func60 (by kernel_rfl) (by kernel_rfl)
noncomputable def fi_hash_Permute : FI Try.prog := FI.of 61 Try.f61 (Try.f61.body.getD .skip) Try.func61 (by kernel_rfl) (by kernel_rfl)
noncomputable def fi_strings_Builder_WriteByte : FI Try.prog := FI.of 62 Try.f62 (Try.f62.body.getD .skip) Try.func62 (by kernel_rfl) (by kernel_rfl)
noncomputable def fi_strings_Builder_String : FI Try.prog := FI.of 63 Try.f63 (Try.f63.body.getD .skip) Try.func63 (by kernel_rfl) (by kernel_rfl)
noncomputable def fi_truceref05_Permute : FI Try.prog := FI.of 64 Try.f64 (Try.f64.body.getD .skip) Try.func64 (by kernel_rfl) (by kernel_rfl)
noncomputable def fi_truceref06_power : FI Try.prog := FI.of 65 Try.f65 (Try.f65.body.getD .skip) Try.func65 (by kernel_rfl) (by kernel_rfl)
noncomputable def fi_curve_doubles_1 : FI Try.prog := FI.of 66 Try.f66 (Try.f66.body.getD .skip) Try.func66 (by kernel_rfl) (by kernel_rfl)
noncomputable def fi_num_Bits : FI Try.prog := FI.of 67 Try.f67 (Try.f67.body.getD .skip) Try.func67 (by kernel_rfl) (by kernel_rfl)
noncomputable def fi_num_Shr : FI Try.prog := FI.of 68 Try.f68 (Try.f68.body.getD .skip) Try.func68 (by kernel_rfl) (by kernel_rfl)
noncomputable def fi_curve_triple_double : FI Try.prog := FI.of 69 Try.f69 (Try.f69.body.getD .skip) Try.func69 (by kernel_rfl) (by kernel_rfl)
noncomputable def fi_curve_times : FI Try.prog := FI.of 70 Try.f70 (Try.f70.body.getD .skip) Try.func70 (by kernel_rfl) (by kernel_rfl)
noncomputable def fi_curve_cross : FI Try.prog := FI.of 71 Try.f71 (Try.f71.body.getD .skip) Try.func71 (by kernel_rfl) (by kernel_rfl)
noncomputable def fi_curve_plus : FI Try.prog := FI.of 72 Try.f72 (Try.f72.body.getD .skip) Try.func72 (by kernel_rfl) (by kernel_rfl)
noncomputable def fi_curve_minus : FI Try.prog := FI.of 73 Try.f73 (Try.f73.body.getD .skip) Try.func73 (by kernel_rfl) (by kernel_rfl)
noncomputable def fi_curve_root : FI Try.prog := FI.of 74 Try.f74 (Try.f74.body.getD .skip) Try.func74 (by kernel_rfl) (by kernel_rfl)
noncomputable def fi_math_bits_Len64 : FI Try.prog := FI.of 75 Try.f75 (Try.f75.body.getD .skip) Try.func75 (by kernel_rfl) (by kernel_rfl)
noncomputable def fi_hash_blocks_1 : FI Try.prog := FI.of 76 Try.f76 (Try.f76.body.getD .skip) Try.func76 (by kernel_rfl) (by kernel_rfl)
noncomputable def fi_hash_lanes_mixed : FI Try.prog := FI.of 77 Try.f77 (Try.f77.body.getD .skip) Try.func77 (by kernel_rfl) (by kernel_rfl)
noncomputable def fi_hash_lanes_moved : FI Try.prog := FI.of 78 Try.f78 (Try.f78.body.getD .skip) Try.func78 (by kernel_rfl) (by kernel_rfl)
noncomputable def fi_hash_lanes_folded : FI Try.prog := FI.of 79 Try.f79 (Try.f79.body.getD .skip) Try.func79 (by kernel_rfl) (by kernel_rfl)
noncomputable def fi_truceref05_turns : FI Try.prog := FI.of 81 Try.f81 (Try.f81.body.getD .skip) Try.func81 (by kernel_rfl) (by kernel_rfl)
noncomputable def fi_truceref05_marks : FI Try.prog := FI.of 82 Try.f82 (Try.f82.body.getD .skip) Try.func82 (by kernel_rfl) (by kernel_rfl)
noncomputable def fi_truceref05_turn : FI Try.prog := FI.of 83 Try.f83 (Try.f83.body.getD .skip) Try.func83 (by kernel_rfl) (by kernel_rfl)
noncomputable def fi_curve_row : FI Try.prog := FI.of 84 Try.f84 (Try.f84.body.getD .skip) Try.func84 (by kernel_rfl) (by kernel_rfl)
noncomputable def fi_curve_cut : FI Try.prog := FI.of 85 Try.f85 (Try.f85.body.getD .skip) Try.func85 (by kernel_rfl) (by kernel_rfl)
noncomputable def fi_curve_bring : FI Try.prog := FI.of 86 Try.f86 (Try.f86.body.getD .skip) Try.func86 (by kernel_rfl) (by kernel_rfl)
noncomputable def fi_hash_turn : FI Try.prog := FI.of 87 Try.f87 (Try.f87.body.getD .skip) Try.func87 (by kernel_rfl) (by kernel_rfl)
end Go.Proofs.Ytglcjmnkhmdlhaa

/- Contracts: sums, differences, which is more. -/
namespace Go.Proofs.Ytglcjmnkhmdlhaa
open Go Go.RowKit

noncomputable def cAdd64 : Ctr Try.prog := ctrAdd64 45 Try.func45 (by kernel_rfl) (by kernel_rfl) (by kernel_rfl) (by kernel_rfl)
noncomputable def cSub64 : Ctr Try.prog := ctrSub64 32 Try.func32 (by kernel_rfl) (by kernel_rfl) (by kernel_rfl) (by kernel_rfl)
noncomputable def X1 : EnvX Try.prog := { cs := [cAdd64, cSub64], fis := [fi_num_Add, fi_num_Sub, fi_num_Of, fi_truceref01_Add, fi_truceref01_Sub], lcs := [] }

theorem one3 {a b c : Int} (ha : a.toNat ≤ 1) (hb : b.toNat ≤ 1) (hc : c.toNat ≤ 1) : ∀ x ∈ [true, Nat.ble a.toNat 1, Nat.ble b.toNat 1, Nat.ble c.toNat 1], x = true := by
  simp [Nat.ble_eq_true_of_le ha, Nat.ble_eq_true_of_le hb, Nat.ble_eq_true_of_le hc]

def addOut (a b : BitVec 256) : AV := .tup [.u (a + b), .bool (uover a b)]
def subOut (a b : BitVec 256) : AV := .tup [.u (a - b), .bool (uless a b)]

theorem if_beq_one (c : Bool) : ((if c = true then 1 else 0 : Int) == 1) = c := by cases c <;> rfl
theorem if_gt_zero (c : Bool) : decide ((if c = true then 1 else 0 : Int) > 0) = c := by cases c <;> rfl

theorem num_Add_run (a b : BitVec 256) : (callX X1 (exec X1 100) 39 [.u a, .u b] [] 0).map (fun r => (r.1, r.2.1)) =
    some ([true, Nat.ble (ac1 a b).toNat 1, Nat.ble (ac2 a b).toNat 1, Nat.ble (ac3 a b).toNat 1], .tup [.ints .u64 4 (addL a b), .bool (ac4 a b == 1)]) := by kernel_rfl
theorem num_Add_ok (a b : BitVec 256) : Pure Try.prog 39 [.u a, .u b] (addOut a b) := by
  obtain ⟨h1, h2, h3, h4, h5⟩ := add_plain a b
  exact Pure.by_run mixed X1 100 _ _ (num_Add_run a b) (one3 h1 h2 h3) (SameR.tup2 (SameV.u4 h4) (SameV.bool (by rw [h5]; exact if_beq_one _)))
noncomputable def c_num_Add : Ctr Try.prog := Ctr.u2 39 addOut num_Add_ok

theorem ref_Add_run (a b : BitVec 256) : (callX X1 (exec X1 100) 22 [.u a, .u b] [] 0).map (fun r => (r.1, r.2.1)) =
    some ([true, Nat.ble (ac1 a b).toNat 1, Nat.ble (ac2 a b).toNat 1, Nat.ble (ac3 a b).toNat 1], .tup [.ints .u64 4 (addL a b), .bool (decide (ac4 a b > 0))]) := by kernel_rfl
theorem ref_Add_ok (a b : BitVec 256) : Pure Try.prog 22 [.u a, .u b] (addOut a b) := by
  obtain ⟨h1, h2, h3, h4, h5⟩ := add_plain a b
  exact Pure.by_run mixed X1 100 _ _ (ref_Add_run a b) (one3 h1 h2 h3) (SameR.tup2 (SameV.u4 h4) (SameV.bool (by rw [h5]; exact if_gt_zero _)))
noncomputable def c_ref_Add : Ctr Try.prog := Ctr.u2 22 addOut ref_Add_ok

theorem num_Sub_run (a b : BitVec 256) : (callX X1 (exec X1 100) 52 [.u a, .u b] [] 0).map (fun r => (r.1, r.2.1)) =
    some ([true, Nat.ble (sb1 a b).toNat 1, Nat.ble (sb2 a b).toNat 1, Nat.ble (sb3 a b).toNat 1], .tup [.ints .u64 4 (subL a b), .bool (sb4 a b == 1)]) := by kernel_rfl
theorem num_Sub_ok (a b : BitVec 256) : Pure Try.prog 52 [.u a, .u b] (subOut a b) := by
  obtain ⟨h1, h2, h3, h4, h5⟩ := sub_plain a b
  exact Pure.by_run mixed X1 100 _ _ (num_Sub_run a b) (one3 h1 h2 h3) (SameR.tup2 (SameV.u4 h4) (SameV.bool (by rw [h5]; exact if_beq_one _)))
noncomputable def c_num_Sub : Ctr Try.prog := Ctr.u2 52 subOut num_Sub_ok

theorem ref_Sub_run (a b : BitVec 256) : (callX X1 (exec X1 100) 10 [.u a, .u b] [] 0).map (fun r => (r.1, r.2.1)) =
    some ([true, Nat.ble (sb1 a b).toNat 1, Nat.ble (sb2 a b).toNat 1, Nat.ble (sb3 a b).toNat 1], .tup [.ints .u64 4 (subL a b), .bool (decide (sb4 a b > 0))]) := by kernel_rfl
theorem ref_Sub_ok (a b : BitVec 256) : Pure Try.prog 10 [.u a, .u b] (subOut a b) := by
  obtain ⟨h1, h2, h3, h4, h5⟩ := sub_plain a b
  exact Pure.by_run mixed X1 100 _ _ (ref_Sub_run a b) (one3 h1 h2 h3) (SameR.tup2 (SameV.u4 h4) (SameV.bool (by rw [h5]; exact if_gt_zero _)))
noncomputable def c_ref_Sub : Ctr Try.prog := Ctr.u2 10 subOut ref_Sub_ok

theorem ofNat_limbs (n : Nat) (h : n < 18446744073709551616) : [(n : Int), 0, 0, 0] = [limb (BitVec.ofNat 256 n) 0, limb (BitVec.ofNat 256 n) 1, limb (BitVec.ofNat 256 n) 2, limb (BitVec.ofNat 256 n) 3] := by
  have hx : (BitVec.ofNat 256 n).toNat = n + 18446744073709551616 * (0 + 18446744073709551616 * (0 + 18446744073709551616 * 0)) := by
    rw [BitVec.toNat_ofNat]; omega
  obtain ⟨h0, h1, h2, h3⟩ := limb_of h (by omega) (by omega) (by omega) hx
  rw [h0, h1, h2, h3]; rfl

theorem num_Of_run (n : Int) : (callX X1 (exec X1 100) 40 [.int .u64 n] [] 0).map (fun r => (r.1, r.2.1)) = some ([], .ints .u64 4 [n, 0, 0, 0]) := by kernel_rfl
theorem num_Of_ok (n : Nat) (h : n < 18446744073709551616) : Pure Try.prog 40 [.int .u64 n] (.u (BitVec.ofNat 256 n)) :=
  Pure.by_run mixed X1 100 _ _ (num_Of_run n) (by simp) (SameV.u4 (ofNat_limbs n h)).r
noncomputable def c_num_Of : Ctr Try.prog := Ctr.n1 40 (fun n => .u (BitVec.ofNat 256 n)) num_Of_ok
/-! ### Which is more -/
def ucmp (a b : BitVec 256) : Int := if a = b then 0 else if uless a b then -1 else 1

noncomputable def X2 (l : List (Nat × Nat × Bool)) : EnvX Try.prog := { cs := [c_num_Sub], fis := [fi_num_Cmp], lcs := [], br := brL l }
theorem num_Cmp_run0 (a b : BitVec 256) : (callX (X2 [(29, 1, true)]) (exec (X2 [(29, 1, true)]) 100) 29 [.u a, .u b] [] 0).map (fun r => (r.1, r.2.1)) =
    some ([(a == b) == true], .int .i64 0) := by kernel_rfl
theorem num_Cmp_run1 (a b : BitVec 256) : (callX (X2 [(29, 1, false), (29, 4, true)]) (exec (X2 [(29, 1, false), (29, 4, true)]) 100) 29 [.u a, .u b] [] 0).map (fun r => (r.1, r.2.1)) =
    some ([(a == b) == false, uless a b == true], .int .i64 (-1)) := by kernel_rfl
theorem num_Cmp_run2 (a b : BitVec 256) : (callX (X2 [(29, 1, false), (29, 4, false)]) (exec (X2 [(29, 1, false), (29, 4, false)]) 100) 29 [.u a, .u b] [] 0).map (fun r => (r.1, r.2.1)) =
    some ([(a == b) == false, uless a b == false], .int .i64 1) := by kernel_rfl
theorem num_Cmp_ok (a b : BitVec 256) : Pure Try.prog 29 [.u a, .u b] (.int .i64 (ucmp a b)) := by
  unfold ucmp
  by_cases h : a = b
  · exact Pure.by_run mixed _ 100 _ _ (num_Cmp_run0 a b) (by simp [h]) (SameV.int (by rw [if_pos h])).r
  · cases hl : uless a b with
    | true => exact Pure.by_run mixed _ 100 _ _ (num_Cmp_run1 a b) (by simp [h, hl]) (SameV.int (by rw [if_neg h, if_pos rfl])).r
    | false => exact Pure.by_run mixed _ 100 _ _ (num_Cmp_run2 a b) (by simp [h, hl]) (SameV.int (by rw [if_neg h, if_neg (by simp)])).r
noncomputable def c_num_Cmp : Ctr Try.prog := Ctr.u2 29 (fun a b => .int .i64 (ucmp a b)) num_Cmp_ok
end Go.Proofs.Ytglcjmnkhmdlhaa

/- Contracts: bit by bit; which is more, by the document; chapter 1's examples. -/
namespace Go.Proofs.Ytglcjmnkhmdlhaa
open Go Go.RowKit

section
variable {P : Program}
def Ctr.ii (f : Nat) (F : Int → Int → AV) (ok : ∀ x y, Pure P f [.int .u64 x, .int .u64 y] (F x y)) : Ctr P :=
  Ctr.of f (fun | [.int .u64 x, .int .u64 y] => some ([], F x y) | _ => none) (by
    intro args ob v h _
    split at h <;> simp at h
    obtain ⟨_, rfl⟩ := h
    exact ok _ _)

/-- A run that gives 'true'. -/
def okB (r : Option (List Bool × AV × Heap × Nat)) : Bool :=
  match r with
  | some (ob, .bool b, _, _) => ob.all id && b
  | _ => false

theorem Pure.by_true (hm : P.follows .mixedOrders = true) (X : EnvX P) (n f : Nat) (args : List AV) (h : okB (callX X (exec X n) f args [] 0) = true) : Pure P f args (.bool true) := by
  unfold okB at h
  split at h <;> try contradiction
  rename_i ob b H' nk' hr
  simp only [Bool.and_eq_true, List.all_eq_true] at h
  refine Pure.by_run hm X n f args (ob := ob) (v := .bool b) (by rw [hr]; rfl) (fun x hx => h.1 x hx) (SameV.bool h.2).r
end

noncomputable def X3 : EnvX Try.prog := { cs := [], fis := [], lcs := [] }
noncomputable def X4 : EnvX Try.prog := { cs := [], fis := [], lcs := [] }
def each4 (F : Int → Int → Int) (a b : BitVec 256) : List Int := [F (limb a 0) (limb b 0), F (limb a 1) (limb b 1), F (limb a 2) (limb b 2), F (limb a 3) (limb b 3)]
/-! ### Parts, bit by bit -/
theorem limb_extract (x : BitVec 256) (i : Nat) : limb x i = ((x.extractLsb' (64 * i) 64).toNat : Int) := by
  simp [limb, BitVec.extractLsb'_toNat, Nat.shiftRight_eq_div_pow]
theorem ofInt_limb (x : BitVec 256) (i : Nat) : BitVec.ofInt 64 (limb x i) = x.extractLsb' (64 * i) 64 := by
  rw [limb_extract, BitVec.ofInt_natCast, BitVec.ofNat_toNat, BitVec.setWidth_eq]
theorem wrap_u64_nat (n : Nat) (h : n < 18446744073709551616) : IntKind.u64.wrap (n : Int) = n := by
  simp [IntKind.wrap, IntKind.signed, IntKind.bits]; omega
theorem iand_limb (a b : BitVec 256) (i : Nat) : iand .u64 (limb a i) (limb b i) = limb (a &&& b) i := by
  unfold iand
  show IntKind.u64.wrap ((BitVec.ofInt 64 (limb a i) &&& BitVec.ofInt 64 (limb b i)).toNat : Int) = _
  rw [wrap_u64_nat _ (BitVec.isLt _), ofInt_limb, ofInt_limb, limb_extract, BitVec.extractLsb'_and]
theorem ior_limb (a b : BitVec 256) (i : Nat) : ior .u64 (limb a i) (limb b i) = limb (a ||| b) i := by
  unfold ior
  show IntKind.u64.wrap ((BitVec.ofInt 64 (limb a i) ||| BitVec.ofInt 64 (limb b i)).toNat : Int) = _
  rw [wrap_u64_nat _ (BitVec.isLt _), ofInt_limb, ofInt_limb, limb_extract, BitVec.extractLsb'_or]
theorem ixor_limb (a b : BitVec 256) (i : Nat) : ixor .u64 (limb a i) (limb b i) = limb (a ^^^ b) i := by
  unfold ixor
  show IntKind.u64.wrap ((BitVec.ofInt 64 (limb a i) ^^^ BitVec.ofInt 64 (limb b i)).toNat : Int) = _
  rw [wrap_u64_nat _ (BitVec.isLt _), ofInt_limb, ofInt_limb, limb_extract, BitVec.extractLsb'_xor]
theorem inot_limb (a : BitVec 256) (i : Nat) (hi : i < 4) : ixor .u64 (if IntKind.u64.signed then -1 else IntKind.u64.max) (limb a i) = limb (~~~ a) i := by
  have hall : BitVec.ofInt 64 IntKind.u64.max = BitVec.allOnes 64 := by decide
  unfold ixor
  show IntKind.u64.wrap ((BitVec.ofInt 64 IntKind.u64.max ^^^ BitVec.ofInt 64 (limb a i)).toNat : Int) = _
  rw [wrap_u64_nat _ (BitVec.isLt _), ofInt_limb, limb_extract, hall]
  congr 1
  congr 1
  ext k hk
  simp only [BitVec.getElem_xor, BitVec.getElem_allOnes, BitVec.getElem_extractLsb', BitVec.getLsbD_not]
  have : 64 * i + k < 256 := by omega
  simp [this]
theorem not_nat (a : BitVec 256) (i : Nat) (hi : i < 4) : IntKind.u64.wrap (18446744073709551615 - limb a i) = limb (~~~ a) i := by
  have h0 := limb_lo a i
  have h1 := limb_hi a i
  rw [← inot_limb a i hi]
  obtain ⟨n, hn⟩ := Int.eq_ofNat_of_zero_le h0
  have hl := ofInt_limb a i
  have hall : BitVec.ofInt 64 IntKind.u64.max = BitVec.allOnes 64 := by decide
  unfold ixor
  show _ = IntKind.u64.wrap ((BitVec.ofInt 64 IntKind.u64.max ^^^ BitVec.ofInt 64 (limb a i)).toNat : Int)
  rw [hall, hn]
  have hlt : n < 18446744073709551616 := by omega
  have e1 : BitVec.ofInt 64 (n : Int) = BitVec.ofNat 64 n := by simp
  have e2 : (BitVec.allOnes 64 ^^^ BitVec.ofNat 64 n).toNat = 18446744073709551615 - n := by
    rw [BitVec.allOnes_xor, BitVec.toNat_not, BitVec.toNat_ofNat]
    omega
  rw [e1, e2]
  congr 1
  omega

/-! ### Chapter 1's examples -/
noncomputable def XA1 : EnvX Try.prog := { cs := [cAdd64, cSub64, c_num_Add, c_num_Sub, c_num_Of], fis := [fi_num_Bits, fi_math_bits_Len64], lcs := [] }
end Go.Proofs.Ytglcjmnkhmdlhaa

/- Contracts: which is more, by the document (truceref01.Cmp). -/
namespace Go.Proofs.Ytglcjmnkhmdlhaa
open Go Go.RowKit

def intEq (n : Int) (k : Nat) : Bool :=
  match n with
  | .ofNat m => Nat.beq m k
  | _ => false

/-- Decisions by a counter's slot: at the value 'j' these, else those. -/
def brAt (f t j : Nat) (here there : List (Nat × Bool)) : Nat → Nat → St → Option Bool := fun f' r s =>
  match Nat.beq f f' with
  | true => match sget s.ss t with
    | .int _ n => match intEq n j with
      | true => brL (here.map fun x => (f, x.1, x.2)) f r s
      | false => brL (there.map fun x => (f, x.1, x.2)) f r s
    | _ => none
  | false => none

noncomputable def X5 (j : Nat) (here : List (Nat × Bool)) : EnvX Try.prog := { cs := [], fis := [fi_truceref01_Cmp], lcs := [], br := brAt 23 5 j here [(4, false), (6, false)] }
def cmpPre (a b : BitVec 256) : Nat → List Bool
  | 0 => []
  | k + 1 => cmpPre a b k ++ [decide (limb a (3 - k) < limb b (3 - k)) == false, decide (limb a (3 - k) > limb b (3 - k)) == false]
theorem ref_Cmp_lt3 (a b : BitVec 256) : (callX (X5 3 [(4, true)]) (exec (X5 3 [(4, true)]) 100) 23 [.u a, .u b] [] 0).map (fun r => (r.1, r.2.1)) =
    some (cmpPre a b 0 ++ [decide (limb a 3 < limb b 3) == true], .int .i64 (-1)) := by kernel_rfl
theorem ref_Cmp_gt3 (a b : BitVec 256) : (callX (X5 3 [(4, false), (6, true)]) (exec (X5 3 [(4, false), (6, true)]) 100) 23 [.u a, .u b] [] 0).map (fun r => (r.1, r.2.1)) =
    some (cmpPre a b 0 ++ [decide (limb a 3 < limb b 3) == false, decide (limb a 3 > limb b 3) == true], .int .i64 1) := by kernel_rfl
theorem ref_Cmp_lt2 (a b : BitVec 256) : (callX (X5 2 [(4, true)]) (exec (X5 2 [(4, true)]) 100) 23 [.u a, .u b] [] 0).map (fun r => (r.1, r.2.1)) =
    some (cmpPre a b 1 ++ [decide (limb a 2 < limb b 2) == true], .int .i64 (-1)) := by kernel_rfl
theorem ref_Cmp_gt2 (a b : BitVec 256) : (callX (X5 2 [(4, false), (6, true)]) (exec (X5 2 [(4, false), (6, true)]) 100) 23 [.u a, .u b] [] 0).map (fun r => (r.1, r.2.1)) =
    some (cmpPre a b 1 ++ [decide (limb a 2 < limb b 2) == false, decide (limb a 2 > limb b 2) == true], .int .i64 1) := by kernel_rfl
theorem ref_Cmp_lt1 (a b : BitVec 256) : (callX (X5 1 [(4, true)]) (exec (X5 1 [(4, true)]) 100) 23 [.u a, .u b] [] 0).map (fun r => (r.1, r.2.1)) =
    some (cmpPre a b 2 ++ [decide (limb a 1 < limb b 1) == true], .int .i64 (-1)) := by kernel_rfl
theorem ref_Cmp_gt1 (a b : BitVec 256) : (callX (X5 1 [(4, false), (6, true)]) (exec (X5 1 [(4, false), (6, true)]) 100) 23 [.u a, .u b] [] 0).map (fun r => (r.1, r.2.1)) =
    some (cmpPre a b 2 ++ [decide (limb a 1 < limb b 1) == false, decide (limb a 1 > limb b 1) == true], .int .i64 1) := by kernel_rfl
theorem ref_Cmp_lt0 (a b : BitVec 256) : (callX (X5 0 [(4, true)]) (exec (X5 0 [(4, true)]) 100) 23 [.u a, .u b] [] 0).map (fun r => (r.1, r.2.1)) =
    some (cmpPre a b 3 ++ [decide (limb a 0 < limb b 0) == true], .int .i64 (-1)) := by kernel_rfl
theorem ref_Cmp_gt0 (a b : BitVec 256) : (callX (X5 0 [(4, false), (6, true)]) (exec (X5 0 [(4, false), (6, true)]) 100) 23 [.u a, .u b] [] 0).map (fun r => (r.1, r.2.1)) =
    some (cmpPre a b 3 ++ [decide (limb a 0 < limb b 0) == false, decide (limb a 0 > limb b 0) == true], .int .i64 1) := by kernel_rfl
theorem ref_Cmp_eq (a b : BitVec 256) : (callX (X5 9 []) (exec (X5 9 []) 100) 23 [.u a, .u b] [] 0).map (fun r => (r.1, r.2.1)) = some (cmpPre a b 4, .int .i64 0) := by kernel_rfl

theorem nat4_lt3 {a0 a1 a2 a3 b0 b1 b2 b3 : Nat} (ha0 : a0 < 18446744073709551616) (ha1 : a1 < 18446744073709551616) (ha2 : a2 < 18446744073709551616) (h : a3 < b3) : nat4 a0 a1 a2 a3 < nat4 b0 b1 b2 b3 := by unfold nat4; omega
theorem nat4_lt2 {a0 a1 a2 c b0 b1 b2 : Nat} (ha0 : a0 < 18446744073709551616) (ha1 : a1 < 18446744073709551616) (h : a2 < b2) : nat4 a0 a1 a2 c < nat4 b0 b1 b2 c := by unfold nat4; omega
theorem nat4_lt1 {a0 a1 d c b0 b1 : Nat} (ha0 : a0 < 18446744073709551616) (h : a1 < b1) : nat4 a0 a1 d c < nat4 b0 b1 d c := by unfold nat4; omega
theorem nat4_lt0 {a0 e d c b0 : Nat} (h : a0 < b0) : nat4 a0 e d c < nat4 b0 e d c := by unfold nat4; omega
theorem ucmp_lt {a b : BitVec 256} (h : a.toNat < b.toNat) : ucmp a b = -1 := by
  unfold ucmp
  rw [if_neg (by rintro rfl; omega), if_pos (by simp [uless, h])]
theorem ucmp_gt {a b : BitVec 256} (h : b.toNat < a.toNat) : ucmp a b = 1 := by
  unfold ucmp
  rw [if_neg (by rintro rfl; omega), if_neg (by simp [uless]; omega)]

theorem ref_Cmp_ok (a b : BitVec 256) : Pure Try.prog 23 [.u a, .u b] (.int .i64 (ucmp a b)) := by
  obtain ⟨a0, a1, a2, a3, h0, h1, h2, h3, e0, e1, e2, e3, ha⟩ := limbs_nat a
  obtain ⟨b0, b1, b2, b3, g0, g1, g2, g3, f0, f1, f2, f3, hb⟩ := limbs_nat b
  have ha : a.toNat = nat4 a0 a1 a2 a3 := ha
  have hb : b.toNat = nat4 b0 b1 b2 b3 := hb
  rcases Nat.lt_trichotomy a3 b3 with h | rfl | h
  · exact Pure.by_run mixed _ 100 _ _ (ref_Cmp_lt3 a b) (by simp [cmpPre, e3, f3, h]) (SameV.int (by rw [ucmp_lt]; rw [ha, hb]; exact nat4_lt3 h0 h1 h2 h)).r
  · rcases Nat.lt_trichotomy a2 b2 with h | rfl | h
    · exact Pure.by_run mixed _ 100 _ _ (ref_Cmp_lt2 a b) (by simp [cmpPre, e3, f3, e2, f2, h]) (SameV.int (by rw [ucmp_lt]; rw [ha, hb]; exact nat4_lt2 h0 h1 h)).r
    · rcases Nat.lt_trichotomy a1 b1 with h | rfl | h
      · exact Pure.by_run mixed _ 100 _ _ (ref_Cmp_lt1 a b) (by simp [cmpPre, e3, f3, e2, f2, e1, f1, h]) (SameV.int (by rw [ucmp_lt]; rw [ha, hb]; exact nat4_lt1 h0 h)).r
      · rcases Nat.lt_trichotomy a0 b0 with h | rfl | h
        · exact Pure.by_run mixed _ 100 _ _ (ref_Cmp_lt0 a b) (by simp [cmpPre, e3, f3, e2, f2, e1, f1, e0, f0, h]) (SameV.int (by rw [ucmp_lt]; rw [ha, hb]; exact nat4_lt0 h)).r
        · have : a = b := BitVec.eq_of_toNat_eq (by rw [ha, hb])
          exact Pure.by_run mixed _ 100 _ _ (ref_Cmp_eq a b) (by simp [cmpPre, e3, f3, e2, f2, e1, f1, e0, f0]) (SameV.int (by unfold ucmp; rw [if_pos this])).r
        · exact Pure.by_run mixed _ 100 _ _ (ref_Cmp_gt0 a b) (by simp [cmpPre, e3, f3, e2, f2, e1, f1, e0, f0, h, Nat.le_of_lt h]) (SameV.int (by rw [ucmp_gt]; rw [ha, hb]; exact nat4_lt0 h)).r
      · exact Pure.by_run mixed _ 100 _ _ (ref_Cmp_gt1 a b) (by simp [cmpPre, e3, f3, e2, f2, e1, f1, h, Nat.le_of_lt h]) (SameV.int (by rw [ucmp_gt]; rw [ha, hb]; exact nat4_lt1 g0 h)).r
    · exact Pure.by_run mixed _ 100 _ _ (ref_Cmp_gt2 a b) (by simp [cmpPre, e3, f3, e2, f2, h, Nat.le_of_lt h]) (SameV.int (by rw [ucmp_gt]; rw [ha, hb]; exact nat4_lt2 g0 g1 h)).r
  · exact Pure.by_run mixed _ 100 _ _ (ref_Cmp_gt3 a b) (by simp [cmpPre, e3, f3, h, Nat.le_of_lt h]) (SameV.int (by rw [ucmp_gt]; rw [ha, hb]; exact nat4_lt3 g0 g1 g2 h)).r
noncomputable def c_ref_Cmp : Ctr Try.prog := Ctr.u2 23 (fun a b => .int .i64 (ucmp a b)) ref_Cmp_ok
end Go.Proofs.Ytglcjmnkhmdlhaa

/- Contracts: a number's bytes. -/
namespace Go.Proofs.Ytglcjmnkhmdlhaa
open Go Go.RowKit

def ubyte (a : BitVec 256) (j : Nat) : Int := IntKind.u8.wrap (ishr .u64 (limb a ((31 - j) / 8)) ((8 * ((31 - j) % 8) : Nat) : Int))
def ubytes (a : BitVec 256) : ByteArray := bytesOf ((List.range 32).map (ubyte a))

noncomputable def X6 : EnvX Try.prog := { cs := [], fis := [fi_num_Bytes, fi_truceref01_Bytes], lcs := []}
theorem num_Bytes_run (a : BitVec 256) : (callX X6 (exec X6 300) 42 [.u a] [] 0).map (fun r => (r.1, r.2.1)) = some ([], .str (ubytes a)) := by kernel_rfl
theorem ref_Bytes_run (a : BitVec 256) : (callX X6 (exec X6 300) 44 [.u a] [] 0).map (fun r => (r.1, r.2.1)) = some ([], .str (ubytes a)) := by kernel_rfl
theorem num_Bytes_ok (a : BitVec 256) : Pure Try.prog 42 [.u a] (.str (ubytes a)) := Pure.by_run mixed X6 300 _ _ (num_Bytes_run a) (by simp) (SameV.str rfl).r
theorem ref_Bytes_ok (a : BitVec 256) : Pure Try.prog 44 [.u a] (.str (ubytes a)) := Pure.by_run mixed X6 300 _ _ (ref_Bytes_run a) (by simp) (SameV.str rfl).r
noncomputable def c_num_Bytes : Ctr Try.prog := Ctr.u1 42 (fun a => .str (ubytes a)) num_Bytes_ok
noncomputable def c_ref_Bytes : Ctr Try.prog := Ctr.u1 44 (fun a => .str (ubytes a)) ref_Bytes_ok
end Go.Proofs.Ytglcjmnkhmdlhaa

/- Numbers of 256 bits, shifted: by their parts. -/
namespace Go.Proofs.Ytglcjmnkhmdlhaa
open Go Go.RowKit

def part (a : BitVec 256) (i : Nat) : BitVec 64 := a.extractLsb' (64 * i) 64
theorem limb_part (a : BitVec 256) (i : Nat) : limb a i = ((part a i).toNat : Int) := limb_extract a i
theorem wrap_nat (n : Nat) : IntKind.u64.wrap (n : Int) = ((n % 18446744073709551616 : Nat) : Int) := by
  simp [IntKind.wrap, IntKind.signed, IntKind.bits]
theorem ishl_bv (x : BitVec 64) (k : Nat) (hk : k ≤ 64) : ishl .u64 (x.toNat : Int) (k : Int) = ((x <<< k).toNat : Int) := by
  unfold ishl
  have h1 : min ((k : Int).toNat) IntKind.u64.bits = k := by simp [IntKind.bits]; omega
  rw [h1, BitVec.toNat_shiftLeft, Nat.shiftLeft_eq]
  have : (x.toNat : Int) * 2 ^ k = ((x.toNat * 2 ^ k : Nat) : Int) := by simp
  rw [this, wrap_nat]
theorem ishr_bv (x : BitVec 64) (k : Nat) (hk : k ≤ 64) : ishr .u64 (x.toNat : Int) (k : Int) = ((x >>> k).toNat : Int) := by
  unfold ishr
  have h1 : min ((k : Int).toNat) IntKind.u64.bits = k := by simp [IntKind.bits]; omega
  rw [h1, BitVec.toNat_ushiftRight, Nat.shiftRight_eq_div_pow]
  have : (2 : Int) ^ k = ((2 ^ k : Nat) : Int) := by simp
  rw [this, Int.fdiv_eq_ediv_of_nonneg _ (Int.natCast_nonneg _)]
  rfl
theorem ior_bv (x y : BitVec 64) : ior .u64 (x.toNat : Int) (y.toNat : Int) = ((x ||| y).toNat : Int) := by
  unfold ior
  show IntKind.u64.wrap ((BitVec.ofInt 64 (x.toNat : Int) ||| BitVec.ofInt 64 (y.toNat : Int)).toNat : Int) = _
  rw [wrap_u64_nat _ (BitVec.isLt _), BitVec.ofInt_natCast, BitVec.ofInt_natCast, BitVec.ofNat_toNat, BitVec.ofNat_toNat, BitVec.setWidth_eq, BitVec.setWidth_eq]
theorem wrap_63 {k : Nat} (hk : k < 64) : IntKind.u64.wrap (63 - (k : Int)) = ((63 - k : Nat) : Int) := by
  have : (63 - (k : Int)) = ((63 - k : Nat) : Int) := by omega
  rw [this, wrap_nat]
  omega

theorem part_shl_lo (a : BitVec 256) {q k i : Nat} (h : i < q) : part (a <<< (64 * q + k)) i = 0#64 := by
  unfold part
  ext j hj
  simp only [BitVec.getElem_extractLsb', BitVec.getLsbD_shiftLeft, BitVec.getElem_zero]
  have : 64 * i + j < 64 * q + k := by omega
  simp [this]
theorem part_shl_at (a : BitVec 256) {q k : Nat} (hq : q < 4) : part (a <<< (64 * q + k)) q = part a 0 <<< k := by
  unfold part
  ext j hj
  simp only [BitVec.getElem_extractLsb', BitVec.getLsbD_shiftLeft, BitVec.getElem_shiftLeft]
  have h1 : 64 * q + j < 256 := by omega
  by_cases hjk : j < k
  · have : 64 * q + j < 64 * q + k := by omega
    simp [this, hjk]
  · have h2 : ¬ 64 * q + j < 64 * q + k := by omega
    have h3 : 64 * q + j - (64 * q + k) = 64 * 0 + (j - k) := by omega
    have h4 : j - k < 64 := by omega
    simp only [h1, h2, hjk, h3]
    simp
theorem part_shl_hi (a : BitVec 256) {q k i : Nat} (hi : q < i) (hi4 : i < 4) (hk : k < 64) : part (a <<< (64 * q + k)) i = (part a (i - q) <<< k) ||| ((part a (i - q - 1) >>> 1) >>> (63 - k)) := by
  unfold part
  ext j hj
  simp only [BitVec.getElem_extractLsb', BitVec.getLsbD_shiftLeft, BitVec.getElem_shiftLeft, BitVec.getElem_or, BitVec.getElem_ushiftRight, BitVec.getLsbD_ushiftRight, BitVec.getLsbD_extractLsb']
  have h1 : 64 * i + j < 256 := by omega
  have h2 : ¬ 64 * i + j < 64 * q + k := by omega
  by_cases hjk : j < k
  · have h3 : 64 * i + j - (64 * q + k) = 64 * (i - q - 1) + (1 + (63 - k + j)) := by omega
    have h4 : 1 + (63 - k + j) < 64 := by omega
    simp [h1, h2, hjk, h3, h4]
  · have h3 : 64 * i + j - (64 * q + k) = 64 * (i - q) + (j - k) := by omega
    have h4 : ¬ 1 + (63 - k + j) < 64 := by omega
    simp [h1, h2, hjk, h3, h4]
theorem part_shr_lo (a : BitVec 256) {q k i : Nat} (_hi : i + q + 1 < 4) (hk : k < 64) : part (a >>> (64 * q + k)) i = (part a (i + q) >>> k) ||| ((part a (i + q + 1) <<< 1) <<< (63 - k)) := by
  unfold part
  ext j hj
  simp only [BitVec.getElem_extractLsb', BitVec.getLsbD_ushiftRight, BitVec.getElem_shiftLeft, BitVec.getElem_or, BitVec.getElem_ushiftRight, BitVec.getLsbD_extractLsb']
  by_cases hjk : k + j < 64
  · have h3 : 64 * q + k + (64 * i + j) = 64 * (i + q) + (k + j) := by omega
    have h4 : j < 63 - k ∨ j - (63 - k) < 1 := by omega
    rcases h4 with h4 | h4
    · simp [hjk, h3, h4]
    · by_cases h5 : j < 63 - k
      · simp [hjk, h3, h5]
      · simp [hjk, h3, h4]
  · have h3 : 64 * q + k + (64 * i + j) = 64 * (i + q + 1) + (j - (63 - k) - 1) := by omega
    have h4 : ¬ j < 63 - k := by omega
    have h5 : ¬ j - (63 - k) < 1 := by omega
    simp [hjk, h3, h4, h5]
theorem part_shr_at (a : BitVec 256) {q k i : Nat} (hi : i + q = 3) : part (a >>> (64 * q + k)) i = part a 3 >>> k := by
  unfold part
  ext j hj
  simp only [BitVec.getElem_extractLsb', BitVec.getLsbD_ushiftRight, BitVec.getElem_ushiftRight, BitVec.getLsbD_extractLsb']
  have h3 : 64 * q + k + (64 * i + j) = 64 * 3 + (k + j) := by omega
  by_cases hjk : k + j < 64
  · simp [h3, hjk]
  · have : a.getLsbD (64 * 3 + (k + j)) = false := BitVec.getLsbD_of_ge _ _ (by omega)
    simp only [h3, hjk, this]
    simp
theorem part_shr_hi (a : BitVec 256) {q k i : Nat} (hi : 4 ≤ i + q) : part (a >>> (64 * q + k)) i = 0#64 := by
  unfold part
  ext j hj
  simp only [BitVec.getElem_extractLsb', BitVec.getLsbD_ushiftRight, BitVec.getElem_zero]
  exact BitVec.getLsbD_of_ge _ _ (by omega)

/-- The parts of a number shifted up. -/
def shlL (a : BitVec 256) (q : Nat) (k : Int) : List Int :=
  (List.range 4).map fun i => if i < q then 0 else if i = q then ishl .u64 (limb a 0) k else ior .u64 (ishl .u64 (limb a (i - q)) k) (ishr .u64 (ishr .u64 (limb a (i - q - 1)) 1) (IntKind.u64.wrap (63 - k)))
def shrL (a : BitVec 256) (q : Nat) (k : Int) : List Int :=
  (List.range 4).map fun i => if i + q + 1 < 4 then ior .u64 (ishr .u64 (limb a (i + q)) k) (ishl .u64 (ishl .u64 (limb a (i + q + 1)) 1) (IntKind.u64.wrap (63 - k))) else if i + q = 3 then ishr .u64 (limb a 3) k else 0

theorem ishl_1 (x : BitVec 64) : ishl .u64 (x.toNat : Int) 1 = ((x <<< 1).toNat : Int) := ishl_bv x 1 (by omega)
theorem ishr_1 (x : BitVec 64) : ishr .u64 (x.toNat : Int) 1 = ((x >>> 1).toNat : Int) := ishr_bv x 1 (by omega)
theorem shlL_one (a : BitVec 256) {q k i : Nat} (hq : q < 4) (hk : k < 64) (hi : i < 4) : (if i < q then 0 else if i = q then ishl .u64 (limb a 0) (k : Int) else ior .u64 (ishl .u64 (limb a (i - q)) k) (ishr .u64 (ishr .u64 (limb a (i - q - 1)) 1) (IntKind.u64.wrap (63 - (k : Int))))) =
    limb (a <<< (64 * q + k)) i := by
  simp only [limb_part]
  by_cases h1 : i < q
  · rw [if_pos h1, part_shl_lo a h1]; rfl
  · rw [if_neg h1]
    by_cases h2 : i = q
    · subst h2
      rw [if_pos rfl, part_shl_at a hi, ishl_bv _ _ (by omega)]
    · rw [if_neg h2, part_shl_hi a (by omega) hi hk, ishl_bv _ _ (by omega), ishr_1, wrap_63 hk, ishr_bv _ _ (by omega), ior_bv]
theorem shrL_one (a : BitVec 256) {q k i : Nat} (hk : k < 64) :
    (if i + q + 1 < 4 then ior .u64 (ishr .u64 (limb a (i + q)) (k : Int)) (ishl .u64 (ishl .u64 (limb a (i + q + 1)) 1) (IntKind.u64.wrap (63 - (k : Int)))) else if i + q = 3 then ishr .u64 (limb a 3) k else 0) = limb (a >>> (64 * q + k)) i := by
  simp only [limb_part]
  by_cases h1 : i + q + 1 < 4
  · rw [if_pos h1, part_shr_lo a h1 hk, ishr_bv _ _ (by omega), ishl_1, wrap_63 hk, ishl_bv _ _ (by omega), ior_bv]
  · rw [if_neg h1]
    by_cases h2 : i + q = 3
    · rw [if_pos h2, part_shr_at a h2, ishr_bv _ _ (by omega)]
    · rw [if_neg h2, part_shr_hi a (by omega)]; rfl
theorem shlL_eq (a : BitVec 256) {q k : Nat} (hq : q < 4) (hk : k < 64) : shlL a q k = [limb (a <<< (64 * q + k)) 0, limb (a <<< (64 * q + k)) 1, limb (a <<< (64 * q + k)) 2, limb (a <<< (64 * q + k)) 3] := by
  unfold shlL
  rw [← shlL_one a hq hk (i := 0) (by omega), ← shlL_one a hq hk (i := 1) (by omega), ← shlL_one a hq hk (i := 2) (by omega), ← shlL_one a hq hk (i := 3) (by omega)]
  rfl
theorem shrL_eq (a : BitVec 256) {q k : Nat} (hk : k < 64) : shrL a q k = [limb (a >>> (64 * q + k)) 0, limb (a >>> (64 * q + k)) 1, limb (a >>> (64 * q + k)) 2, limb (a >>> (64 * q + k)) 3] := by
  unfold shrL
  rw [← shrL_one a hk (i := 0), ← shrL_one a hk (i := 1), ← shrL_one a hk (i := 2), ← shrL_one a hk (i := 3)]
  rfl
end Go.Proofs.Ytglcjmnkhmdlhaa

/- Contracts: numbers shifted (num.Shl, num.Shr). -/
namespace Go.Proofs.Ytglcjmnkhmdlhaa
open Go Go.RowKit

def fixAt (f r : Nat) (l : List (Nat × AV)) : Nat → Nat → List (Nat × AV) := fun f' r' => match Nat.beq f f' && Nat.beq r r' with
  | true => l
  | false => []
def symAt (f : Nat) (rs : List Nat) : Nat → Nat → St → Hint := fun f' r _ => match Nat.beq f f' && rs.any (Nat.beq r) with
  | true => { sym := true }
  | false => {}
noncomputable def X7 (f : Nat) (q : Nat) (k : Int) : EnvX Try.prog := { cs := [], fis := [fi_num_Shr], lcs := [], br := brL [(f, 2, false)], fix := fixAt f 4 [(6, .int .i64 q), (7, .int .u64 k)], hint := symAt f [8, 10] }
noncomputable def X8 (f : Nat) : EnvX Try.prog := { cs := [], fis := [fi_num_Shr], lcs := [], br := brL [(f, 2, true)] }
theorem num_Shr_run0 (a : BitVec 256) (n : Int) (k : Nat) : (callX (X7 68 0 k) (exec (X7 68 0 k) 300) 68 [.u a, .int .u64 n] [] 0).map (fun r => (r.1, r.2.1)) =
    some ([decide (n ≥ 256) == false] ++ [IntKind.i64.wrap (IntKind.u64.wrap (n.tdiv 64)) == ((0 : Nat) : Int)] ++ [n.tmod 64 == (k : Int)] ++ List.replicate 10 (true) ++ [decide (0 ≤ IntKind.u64.wrap (63 - (k : Int)))] ++ List.replicate 12 (true) ++ [decide (0 ≤ IntKind.u64.wrap (63 - (k : Int)))] ++ List.replicate 12 (true) ++ [decide (0 ≤ IntKind.u64.wrap (63 - (k : Int)))] ++ List.replicate 7 (true), .ints .u64 4 (shrL a 0 k)) := by kernel_rfl
theorem num_Shr_run1 (a : BitVec 256) (n : Int) (k : Nat) : (callX (X7 68 1 k) (exec (X7 68 1 k) 300) 68 [.u a, .int .u64 n] [] 0).map (fun r => (r.1, r.2.1)) =
    some ([decide (n ≥ 256) == false] ++ [IntKind.i64.wrap (IntKind.u64.wrap (n.tdiv 64)) == ((1 : Nat) : Int)] ++ [n.tmod 64 == (k : Int)] ++ List.replicate 10 (true) ++ [decide (0 ≤ IntKind.u64.wrap (63 - (k : Int)))] ++ List.replicate 12 (true) ++ [decide (0 ≤ IntKind.u64.wrap (63 - (k : Int)))] ++ List.replicate 7 (true), .ints .u64 4 (shrL a 1 k)) := by kernel_rfl
theorem num_Shr_run2 (a : BitVec 256) (n : Int) (k : Nat) : (callX (X7 68 2 k) (exec (X7 68 2 k) 300) 68 [.u a, .int .u64 n] [] 0).map (fun r => (r.1, r.2.1)) =
    some ([decide (n ≥ 256) == false] ++ [IntKind.i64.wrap (IntKind.u64.wrap (n.tdiv 64)) == ((2 : Nat) : Int)] ++ [n.tmod 64 == (k : Int)] ++ List.replicate 10 (true) ++ [decide (0 ≤ IntKind.u64.wrap (63 - (k : Int)))] ++ List.replicate 7 (true), .ints .u64 4 (shrL a 2 k)) := by kernel_rfl
theorem num_Shr_run3 (a : BitVec 256) (n : Int) (k : Nat) : (callX (X7 68 3 k) (exec (X7 68 3 k) 300) 68 [.u a, .int .u64 n] [] 0).map (fun r => (r.1, r.2.1)) =
    some ([decide (n ≥ 256) == false] ++ [IntKind.i64.wrap (IntKind.u64.wrap (n.tdiv 64)) == ((3 : Nat) : Int)] ++ [n.tmod 64 == (k : Int)] ++ List.replicate 5 (true), .ints .u64 4 (shrL a 3 k)) := by kernel_rfl
theorem num_Shr_run (a : BitVec 256) (n : Int) : (callX (X8 68) (exec (X8 68) 300) 68 [.u a, .int .u64 n] [] 0).map (fun r => (r.1, r.2.1)) = some ([decide (n ≥ 256) == true], .ints .u64 4 [0, 0, 0, 0]) := by kernel_rfl

theorem shift_obs {q k : Nat} (hq : q < 4) (hk : k < 64) : (decide (((64 * q + k : Nat) : Int) ≥ 256) == false) = true ∧ (IntKind.i64.wrap (IntKind.u64.wrap (((64 * q + k : Nat) : Int).tdiv 64)) == (q : Int)) = true ∧ (((64 * q + k : Nat) : Int).tmod 64 == (k : Int)) = true ∧ decide (0 ≤ IntKind.u64.wrap (63 - (k : Int))) = true := by
  have h1 : ((64 * q + k : Nat) : Int).tdiv 64 = ((64 * q + k) / 64 : Nat) := rfl
  have h2 : ((64 * q + k : Nat) : Int).tmod 64 = ((64 * q + k) % 64 : Nat) := rfl
  have h3 : (64 * q + k) / 64 = q := by omega
  have h4 : (64 * q + k) % 64 = k := by omega
  have h5 : q % 18446744073709551616 = q := by omega
  refine ⟨by simp; omega, ?_, ?_, ?_⟩
  · rw [h1, h3, wrap_nat, h5, wrap_i64_id (by omega) (by omega)]
    simp
  · rw [h2, h4]; simp
  · rw [wrap_63 hk]; simp
theorem zero_limbs : [(0 : Int), 0, 0, 0] = [limb (0#256) 0, limb (0#256) 1, limb (0#256) 2, limb (0#256) 3] := by decide

theorem all_true3 {c d e : Bool} {l : List Bool} (h1 : c = true) (h2 : d = true) (h3 : e = true) (hl : ∀ b ∈ l, b = true) : ∀ b ∈ [c] ++ [d] ++ [e] ++ l, b = true := by
  intro b hb
  simp only [List.mem_append, List.mem_singleton] at hb
  rcases hb with ((rfl | rfl) | rfl) | hb
  · exact h1
  · exact h2
  · exact h3
  · exact hl b hb

theorem num_Shr_ok (a : BitVec 256) (n : Nat) (_h : n < 18446744073709551616) : Pure Try.prog 68 [.u a, .int .u64 n] (.u (a >>> n)) := by
  by_cases hn : 256 ≤ n
  · have h0 : a >>> n = 0#256 := BitVec.ushiftRight_eq_zero hn
    exact Pure.by_run mixed _ 300 _ _ (num_Shr_run a n) (by simp; omega) (SameV.u4 (by rw [h0]; exact zero_limbs)).r
  · obtain ⟨q, k, hq, hk, rfl⟩ : ∃ q k, q < 4 ∧ k < 64 ∧ n = 64 * q + k := ⟨n / 64, n % 64, by omega, by omega, by omega⟩
    obtain ⟨o1, o2, o3, o4⟩ := shift_obs hq hk
    have hL := shrL_eq a (q := q) hk
    rcases q with _ | _ | _ | _ | q
    · exact Pure.by_run mixed _ 300 _ _ (num_Shr_run0 a _ k) (by simp only [List.append_assoc] at *; simp only [List.mem_append, List.mem_replicate, List.mem_singleton]; rintro b (rfl | rfl | rfl | h) <;> first | assumption | (rcases h with h | h | h | h | h | h | h <;> simp_all)) (SameV.u4 hL).r
    · exact Pure.by_run mixed _ 300 _ _ (num_Shr_run1 a _ k) (by simp; simp at o1 o2 o3 o4; omega) (SameV.u4 hL).r
    · exact Pure.by_run mixed _ 300 _ _ (num_Shr_run2 a _ k) (by simp; simp at o1 o2 o3 o4; omega) (SameV.u4 hL).r
    · exact Pure.by_run mixed _ 300 _ _ (num_Shr_run3 a _ k) (by simp; simp at o1 o2 o3 o4; omega) (SameV.u4 hL).r
    · omega
noncomputable def c_num_Shr : Ctr Try.prog := Ctr.un 68 (fun a n => .u (a >>> n)) num_Shr_ok
end Go.Proofs.Ytglcjmnkhmdlhaa

/- Contracts: a bit of a number; numbers shifted, by the document (truceref01.Bit, Shl, Shr). -/
namespace Go.Proofs.Ytglcjmnkhmdlhaa
open Go Go.RowKit

def pat : Nat → Nat → List (Nat × AV) → List AV
  | 0, _, _ => []
  | n + 1, i, l => (match l.find? (fun x => Nat.beq x.1 i) with
    | some x => x.2
    | none => .any) :: pat n (i + 1) l
def hAll (h : Hint) (f : Nat) (rs : List Nat) (o : Nat → Nat → St → Hint) : Nat → Nat → St → Hint := fun f' r s => match Nat.beq f f' && rs.any (Nat.beq r) with
  | true => h
  | false => o f' r s
def noHint : Nat → Nat → St → Hint := fun _ _ _ => {}

def ubit (a : BitVec 256) (i : Nat) : Int := if a.getLsbD i then 1 else 0
noncomputable def X9 : EnvX Try.prog := { cs := [], fis := [fi_truceref01_Bit], lcs := [], br := brL [(59, 1, false)], hint := hAll { dec := fun _ => some false } 59 [1] (symAt 59 [3]) }
theorem ref_Bit_run (a : BitVec 256) (n : Int) : (callX X9 (exec X9 100) 59 [.u a, .int .i64 n] [] 0).map (fun r => (r.1, r.2.1)) =
    some (List.replicate 3 (decide (n < 0) == false) ++ [decide (n > 255) == false, true, decide (0 ≤ IntKind.i64.wrap (n.tdiv 64)) && decide (IntKind.i64.wrap (n.tdiv 64) < ((4 : Nat) : Int)), Nat.ble ((IntKind.i64.wrap (n.tdiv 64)).toNat + 1) 4, true, decide (0 ≤ IntKind.u64.wrap (n.tmod 64))],
      .int .u64 (iand .u64 (ishr .u64 (limb a (IntKind.i64.wrap (n.tdiv 64)).toNat) (IntKind.u64.wrap (n.tmod 64))) 1)) := by kernel_rfl

theorem iand_bv (x y : BitVec 64) : iand .u64 (x.toNat : Int) (y.toNat : Int) = ((x &&& y).toNat : Int) := by
  unfold iand
  show IntKind.u64.wrap ((BitVec.ofInt 64 (x.toNat : Int) &&& BitVec.ofInt 64 (y.toNat : Int)).toNat : Int) = _
  rw [wrap_u64_nat _ (BitVec.isLt _), BitVec.ofInt_natCast, BitVec.ofInt_natCast, BitVec.ofNat_toNat, BitVec.ofNat_toNat, BitVec.setWidth_eq, BitVec.setWidth_eq]
theorem and_one (x : BitVec 64) : ((x &&& 1#64).toNat : Int) = if x.getLsbD 0 then 1 else 0 := by
  have h1 : (x &&& 1#64).toNat = x.toNat % 2 := by rw [BitVec.toNat_and]; exact Nat.and_one_is_mod _
  have h2 : x.getLsbD 0 = decide (x.toNat % 2 = 1) := by rw [BitVec.getLsbD, Nat.testBit_zero]
  rw [h1, h2]
  rcases Nat.mod_two_eq_zero_or_one x.toNat with h | h <;> rw [h] <;> rfl
theorem bit_limb (a : BitVec 256) {q r : Nat} (hr : r < 64) : iand .u64 (ishr .u64 (limb a q) (r : Int)) 1 = ubit a (64 * q + r) := by
  have h1 : (1 : Int) = ((1#64).toNat : Int) := rfl
  rw [limb_part, ishr_bv _ _ (by omega), h1, iand_bv, and_one]
  unfold ubit part
  have : ((a.extractLsb' (64 * q) 64) >>> r).getLsbD 0 = a.getLsbD (64 * q + r) := by
    rw [BitVec.getLsbD_ushiftRight, BitVec.getLsbD_extractLsb']
    simp [hr]
  rw [this]
theorem idx_i64 {n : Nat} (h : n < 18446744073709551616) : IntKind.i64.wrap ((n : Int).tdiv 64) = ((n / 64 : Nat) : Int) := by
  have h1 : (n : Int).tdiv 64 = ((n / 64 : Nat) : Int) := rfl
  rw [h1, wrap_i64_id (by omega) (by omega)]
theorem rem_u64 (n : Nat) : IntKind.u64.wrap ((n : Int).tmod 64) = ((n % 64 : Nat) : Int) := by
  have h1 : (n : Int).tmod 64 = ((n % 64 : Nat) : Int) := rfl
  rw [h1, wrap_nat]
  omega
theorem ref_Bit_ok (a : BitVec 256) (n : Nat) (h : n < 256) : Pure Try.prog 59 [.u a, .int .i64 n] (.int .u64 (ubit a n)) := by
  have e1 := idx_i64 (n := n) (by omega)
  have e2 := rem_u64 n
  have hv := bit_limb a (q := n / 64) (r := n % 64) (by omega)
  rw [show 64 * (n / 64) + n % 64 = n by omega] at hv
  refine Pure.by_run mixed X9 100 _ _ (ref_Bit_run a n) ?_ (SameV.int ?_).r
  · rw [e1, e2]
    have h3 : n / 64 < 4 := by omega
    intro b hb
    simp at hb
    rcases hb with rfl | rfl | rfl | rfl | rfl | rfl | rfl <;> first | rfl | (simp; done) | (simp; omega)
  · rw [e1, e2]; exact hv
noncomputable def c_ref_Bit : Ctr Try.prog := Ctr.of 59 (fun | [.u a, .int .i64 n] => some ([decide (0 ≤ n) && decide (n < 256)], .int .u64 (ubit a n.toNat)) | _ => none) (by
  intro args ob v h hob
  split at h <;> simp at h
  obtain ⟨rfl, rfl⟩ := h
  rename_i a n
  have := hob (decide (0 ≤ n) && decide (n < 256)) (by simp)
  simp only [Bool.and_eq_true, decide_eq_true_eq] at this
  obtain ⟨m, rfl⟩ := Int.eq_ofNat_of_zero_le this.1
  exact ref_Bit_ok a m (by omega))

noncomputable def X10 (d : Bool) : EnvX Try.prog := { cs := [c_ref_Bit], fis := [], lcs := [], br := fun f r s => brL [(999999, 5, d), (999999, 5, d)] f r s, hint := hAll { sym := true } 999999 [7] (symAt 999999 [7]) }
def shPath : List Nat := [0, 1, 0, 1, 1, 1]
def shSt (a : BitVec 256) (n : Nat) (N : Nat) (i : Int) (o : AV) : St := ⟨pat N 0 [(0, .u a), (1, .int .u64 n), (2, .ptr 0 []), (4, .ptr 1 []), (5, .ptr 2 []), (6, .int .i64 i)], [some ⟨24, .u a, true⟩, some ⟨24, .ints .u64 4 [0, 0, 0, 0], true⟩, some ⟨24, o, true⟩], 3⟩
end Go.Proofs.Ytglcjmnkhmdlhaa

/- Contracts: numbers shifted, by the document (truceref01.Shl, Shr): bit by bit. -/
namespace Go.Proofs.Ytglcjmnkhmdlhaa
open Go Go.RowKit

/-- The bits below 'i'. -/
def lowB (x : BitVec 256) (i : Nat) : BitVec 256 := BitVec.ofNat 256 (x.toNat % 2 ^ i)
theorem lowB_bit (x : BitVec 256) (i j : Nat) : (lowB x i).getLsbD j = (decide (j < i) && x.getLsbD j) := by
  unfold lowB
  rw [BitVec.getLsbD_ofNat, Nat.testBit_mod_two_pow]
  by_cases h : j < 256
  · simp [h, BitVec.getLsbD]
  · have : x.getLsbD j = false := BitVec.getLsbD_of_ge _ _ (by omega)
    simp [h, this]
theorem lowB_zero (x : BitVec 256) (i : Nat) (h : ∀ j, j < i → x.getLsbD j = false) : lowB x i = 0#256 := by
  apply BitVec.eq_of_getLsbD_eq
  intro j _
  rw [lowB_bit, BitVec.getLsbD_zero]
  by_cases hj : j < i
  · rw [h j hj]; simp
  · simp [hj]
theorem lowB_all (x : BitVec 256) (i : Nat) (h : ∀ j, i ≤ j → x.getLsbD j = false) : lowB x i = x := by
  apply BitVec.eq_of_getLsbD_eq
  intro j _
  rw [lowB_bit]
  by_cases hj : j < i
  · simp [hj]
  · rw [h j (by omega)]; simp

theorem part_set (x : BitVec 256) (i p : Nat) : part (lowB x (i + 1)) p = if p = i / 64 then part (lowB x i) p ||| ((if x.getLsbD i then 1#64 else 0#64) <<< (i % 64)) else part (lowB x i) p := by
  split
  · rename_i hp
    subst hp
    unfold part
    ext j hj
    simp only [BitVec.getElem_extractLsb', BitVec.getElem_or, lowB_bit, BitVec.getElem_shiftLeft]
    by_cases h1 : j = i % 64
    · have h2 : 64 * (i / 64) + j = i := by omega
      have h3 : ¬ (j < i % 64) := by omega
      have h4 : j - i % 64 = 0 := by omega
      simp only [h2, h4]
      cases hx : x.getLsbD i <;> simp [h3]
    · by_cases h2 : j < i % 64
      · have h3 : 64 * (i / 64) + j < i := by omega
        have h4 : 64 * (i / 64) + j < i + 1 := by omega
        simp [h2, h3, h4]
      · have h3 : ¬ 64 * (i / 64) + j < i := by omega
        have h4 : ¬ 64 * (i / 64) + j < i + 1 := by omega
        have h5 : j - i % 64 ≠ 0 := by omega
        cases hx : x.getLsbD i
        · simp [h3, h4]
        · simp only [h3, h4]
          simp
          intro _
          simp [h5]
  · rename_i hp
    unfold part
    ext j hj
    simp only [BitVec.getElem_extractLsb', lowB_bit]
    have : decide (64 * p + j < i + 1) = decide (64 * p + j < i) := by
      simp only [decide_eq_decide]; omega
    rw [this]

theorem set_four {l : List Int} {q : Nat} {v : Int} {f : Nat → Int} (hl : ∀ p, p < 4 → p ≠ q → l.getD p 0 = f p) (hq : q < 4) (hv : v = f q) (hlen : l.length = 4) : l.set q v = [f 0, f 1, f 2, f 3] := by
  match l, hlen with
  | [l0, l1, l2, l3], _ =>
    have h0 := hl 0 (by omega)
    have h1 := hl 1 (by omega)
    have h2 := hl 2 (by omega)
    have h3 := hl 3 (by omega)
    simp only [List.getD_cons_zero, List.getD_cons_succ] at h0 h1 h2 h3
    subst hv
    rcases q with _ | _ | _ | _ | q
    · simp [h1 (by omega), h2 (by omega), h3 (by omega)]
    · simp [h0 (by omega), h2 (by omega), h3 (by omega)]
    · simp [h0 (by omega), h1 (by omega), h3 (by omega)]
    · simp [h0 (by omega), h1 (by omega), h2 (by omega)]
    · omega

theorem set_bit (x : BitVec 256) (i : Nat) (hi : i < 256) : ([limb (lowB x i) 0, limb (lowB x i) 1, limb (lowB x i) 2, limb (lowB x i) 3].set (i / 64) (ior .u64 (limb (lowB x i) (i / 64)) (ishl .u64 (if x.getLsbD i then 1 else 0) ((i % 64 : Nat) : Int)))) =
    [limb (lowB x (i + 1)) 0, limb (lowB x (i + 1)) 1, limb (lowB x (i + 1)) 2, limb (lowB x (i + 1)) 3] := by
  refine set_four (f := fun p => limb (lowB x (i + 1)) p) ?_ (by omega) ?_ rfl
  · intro p hp hne
    have : limb (lowB x i) p = limb (lowB x (i + 1)) p := by rw [limb_part, limb_part, part_set x i p, if_neg hne]
    rcases p with _ | _ | _ | _ | p
    · exact this
    · exact this
    · exact this
    · exact this
    · omega
  · show _ = limb (lowB x (i + 1)) (i / 64)
    rw [limb_part, limb_part, part_set x i _, if_pos rfl]
    have : (if x.getLsbD i = true then (1 : Int) else 0) = ((if x.getLsbD i then 1#64 else 0#64 : BitVec 64).toNat : Int) := by split <;> rfl
    rw [this, ishl_bv _ _ (by omega), ior_bv]

def stepObs (c d : Bool) (i : Int) : List Bool := [c == true, true, true, decide (0 ≤ IntKind.i64.wrap (i.tdiv 64)) && decide (IntKind.i64.wrap (i.tdiv 64) < ((4 : Nat) : Int)), Nat.ble ((IntKind.i64.wrap (i.tdiv 64)).toNat + 1) 4, d, true, decide (0 ≤ IntKind.u64.wrap (i.tmod 64)),
  decide (0 ≤ IntKind.i64.wrap (i.tdiv 64)) && decide (IntKind.i64.wrap (i.tdiv 64) < ((4 : Nat) : Int)), Nat.ble ((IntKind.i64.wrap (i.tdiv 64)).toNat + 1) 4]
def stepV (a x : BitVec 256) (i j : Int) : AV := .ints .u64 4 ([limb x 0, limb x 1, limb x 2, limb x 3].set (IntKind.i64.wrap (i.tdiv 64)).toNat (ior .u64 (limb x (IntKind.i64.wrap (i.tdiv 64)).toNat) (ishl .u64 (ubit a j.toNat) (IntKind.u64.wrap (i.tmod 64)))))
def shEnd (a : BitVec 256) (n : Nat) (N : Nat) (i : Int) (o : AV) (l : List (Nat × AV)) (nk : Nat) : St := ⟨pat N 0 ([(0, .u a), (1, .int .u64 n), (2, .ptr 0 []), (4, .ptr 1 []), (5, .ptr 2 []), (6, .int .i64 i)] ++ l), [some ⟨24, .u a, true⟩, some ⟨24, .ints .u64 4 [0, 0, 0, 0], true⟩, some ⟨24, o, true⟩], nk⟩
theorem shSim {a : BitVec 256} {n N : Nat} {i : Int} {l : List Int} {y : BitVec 256} (h : l = [limb y 0, limb y 1, limb y 2, limb y 3]) : Sim (shSt a n N i (.ints .u64 4 l)) (shSt a n N i (.u y)) :=
  Sim.of (SimS.refl _) ⟨⟨rfl, rfl, SimC.refl _⟩, ⟨rfl, rfl, SimC.refl _⟩, ⟨rfl, rfl, SimC.u4 h⟩, trivial⟩
theorem stepObs_ok {c d : Bool} {i : Nat} (hc : c = true) (hd : d = true) (hi : i < 256) : ∀ b ∈ stepObs c d (i : Int), b = true := by
  unfold stepObs
  rw [idx_i64 (by omega), rem_u64]
  intro b hb
  simp only [List.mem_cons, List.not_mem_nil, or_false] at hb
  have h3 : i / 64 < 4 := by omega
  rcases hb with rfl | rfl | rfl | rfl | rfl | rfl | rfl | rfl | rfl | rfl <;> first | rfl | exact hd | (simp [hc]; done) | (simp; omega)
theorem stepV_eq {a y : BitVec 256} {i j : Nat} (hi : i < 256) (hb : a.getLsbD j = y.getLsbD i) : stepV a (lowB y i) i j = .ints .u64 4 [limb (lowB y (i + 1)) 0, limb (lowB y (i + 1)) 1, limb (lowB y (i + 1)) 2, limb (lowB y (i + 1)) 3] := by
  unfold stepV ubit
  rw [idx_i64 (by omega), rem_u64]
  simp only [Int.toNat_natCast, hb]
  rw [set_bit y i hi]
theorem loop_sub {gi : FI Try.prog} {path : List Nat} {c : Code} (h : subC gi.body path = some (.loop c)) : subC gi.body path = some (.loop (loopAt gi path)) := by
  unfold loopAt; rw [h]

noncomputable def X11 (f : Nat) (l : List (LC Try.prog)) : EnvX Try.prog := { cs := [], fis := [], lcs := l, br := brL [(f, 2, false)] }
noncomputable def X12 (f : Nat) : EnvX Try.prog := { cs := [], fis := [], lcs := [], br := brL [(f, 2, true)] }
end Go.Proofs.Ytglcjmnkhmdlhaa

/- Contracts: how many bits a number has. -/
namespace Go.Proofs.Ytglcjmnkhmdlhaa
open Go Go.RowKit

def blen (n : Nat) : Nat := if n = 0 then 0 else n.log2 + 1
def tab8 : ByteArray := ⟨((List.range 256).map fun i => UInt8.ofNat (blen i)).toArray⟩
def sh (d : Bool) (k n : Int) : Int := match d with
  | true => ishr .u64 n k
  | false => n
def ad (d : Bool) (k n : Int) : Int := match d with
  | true => IntKind.i64.wrap (n + k)
  | false => n
def ad0 (d : Bool) : Int := match d with
  | true => 32
  | false => 0
noncomputable def X13 (d e f : Bool) : EnvX Try.prog := { cs := [], fis := [fi_math_bits_Len64], lcs := [], br := brL [(75, 1, d), (75, 4, e), (75, 7, f)], hint := symAt 75 [10] }
theorem len64_run (d e f : Bool) (n : Int) : (callX (X13 d e f) (exec (X13 d e f) 100) 75 [.int .u64 n] [] 0).map (fun r => (r.1, r.2.1)) =
    some ([decide (n ≥ 4294967296) == d, decide (sh d 32 n ≥ 65536) == e, decide (sh e 16 (sh d 32 n) ≥ 256) == f, decide (0 ≤ IntKind.u8.wrap (sh f 8 (sh e 16 (sh d 32 n)))) && decide (IntKind.u8.wrap (sh f 8 (sh e 16 (sh d 32 n))) < tab8.size)],
      .int .i64 (IntKind.i64.wrap (ad f 8 (ad e 16 (ad0 d)) + IntKind.i64.wrap (byteAt tab8 (IntKind.u8.wrap (sh f 8 (sh e 16 (sh d 32 n)))).toNat)))) := by
  cases d <;> cases e <;> cases f <;> kernel_rfl

theorem blen_div {x k : Nat} (h : 2 ^ k ≤ x) : blen (x / 2 ^ k) + k = blen x := by
  have hk : 0 < 2 ^ k := Nat.two_pow_pos k
  have hx : x ≠ 0 := by omega
  have hd : x / 2 ^ k ≠ 0 := Nat.pos_iff_ne_zero.1 (Nat.div_pos h hk)
  unfold blen
  rw [if_neg hd, if_neg hx]
  have key : x.log2 = (x / 2 ^ k).log2 + k := by
    rw [Nat.log2_eq_iff hx]
    obtain ⟨h1, h2⟩ := (Nat.log2_eq_iff (k := (x / 2 ^ k).log2) hd).1 rfl
    constructor
    · rw [Nat.pow_add]
      exact (Nat.le_div_iff_mul_le hk).1 h1
    · rw [show (x / 2 ^ k).log2 + k + 1 = ((x / 2 ^ k).log2 + 1) + k by omega, Nat.pow_add]
      exact (Nat.div_lt_iff_lt_mul hk).1 h2
  omega
theorem blen_le {x k : Nat} (h : x < 2 ^ k) : blen x ≤ k := by
  unfold blen
  split
  · omega
  · rename_i hx
    have := (Nat.log2_lt hx).2 h
    omega
theorem tab8_at {i : Nat} (h : i < 256) : byteAt tab8 i = (blen i : Int) := by
  unfold byteAt tab8
  have hb : blen i ≤ 8 := blen_le (by omega)
  have : ((List.range 256).map fun i => UInt8.ofNat (blen i)).getD i 0 = UInt8.ofNat (blen i) := by
    rw [List.getD, List.getElem?_map, List.getElem?_range h]; rfl
  simp only [this]
  rw [UInt8.toNat_ofNat']
  omega
theorem sh_nat (d : Bool) (k : Nat) (hk : k ≤ 64) (n : Nat) : sh d (k : Int) (n : Int) = ((if d then n / 2 ^ k else n : Nat) : Int) := by
  cases d
  · rfl
  · show ishr .u64 (n : Int) (k : Int) = ((n / 2 ^ k : Nat) : Int)
    unfold ishr
    have h1 : min ((k : Int).toNat) IntKind.u64.bits = k := by simp [IntKind.bits]; omega
    have h2 : (2 : Int) ^ k = ((2 ^ k : Nat) : Int) := by simp
    rw [h1, h2, Int.fdiv_eq_ediv_of_nonneg _ (Int.natCast_nonneg _)]
    rfl
theorem ad_nat (d : Bool) (k n : Nat) (hk : k ≤ 64) (hn : n ≤ 1000) : ad d (k : Int) (n : Int) = ((if d then n + k else n : Nat) : Int) := by
  cases d
  · rfl
  · show IntKind.i64.wrap ((n : Int) + (k : Int)) = ((n + k : Nat) : Int)
    rw [wrap_i64_id (by omega) (by omega)]; rfl
theorem ad0_nat (d : Bool) : ad0 d = ((if d then 32 else 0 : Nat) : Int) := by cases d <;> rfl
/-- One halving. -/
theorem half {x c k : Nat} {d : Bool} (hd : d = decide (2 ^ k ≤ x)) : blen (if d then x / 2 ^ k else x) + (if d then c + k else c) = blen x + c := by
  subst hd
  by_cases h : 2 ^ k ≤ x
  · simp only [h, decide_true, if_true]
    have := blen_div h
    omega
  · simp only [h, decide_false]
    simp
theorem half_lt {x k m : Nat} {d : Bool} (hd : d = decide (2 ^ k ≤ x)) (hx : x < 2 ^ (k + m)) (hkm : m ≤ k) : (if d then x / 2 ^ k else x) < 2 ^ k := by
  subst hd
  by_cases h : 2 ^ k ≤ x
  · simp only [h, decide_true, if_true]
    rw [Nat.div_lt_iff_lt_mul (Nat.two_pow_pos k), ← Nat.pow_add]
    exact Nat.lt_of_lt_of_le hx (Nat.pow_le_pow_right (by omega) (by omega))
  · simp only [h, decide_false]
    simp; omega

theorem tab8_size : tab8.size = 256 := by kernel_rfl
theorem wrap_u8_id {n : Nat} (h : n < 256) : IntKind.u8.wrap (n : Int) = n := by
  simp [IntKind.wrap, IntKind.signed, IntKind.bits]; omega
theorem len64_ok (n : Nat) (h : n < 18446744073709551616) : Pure Try.prog 75 [.int .u64 n] (.int .i64 (blen n)) := by
  obtain ⟨d, hd⟩ : ∃ d, d = decide (2 ^ 32 ≤ n) := ⟨_, rfl⟩
  have e1 := sh_nat d 32 (by omega) n
  have b1 := half_lt (m := 32) hd (by omega) (by omega)
  have s1 := half (c := 0) hd
  obtain ⟨x1, hx1⟩ : ∃ x, x = (if d then n / 2 ^ 32 else n) := ⟨_, rfl⟩
  rw [← hx1] at e1 b1 s1
  obtain ⟨e, he⟩ : ∃ e, e = decide (2 ^ 16 ≤ x1) := ⟨_, rfl⟩
  have e2 := sh_nat e 16 (by omega) x1
  have b2 := half_lt (m := 16) he (by omega) (by omega)
  have s2 := half (c := if d then 0 + 32 else 0) he
  obtain ⟨x2, hx2⟩ : ∃ x, x = (if e then x1 / 2 ^ 16 else x1) := ⟨_, rfl⟩
  rw [← hx2] at e2 b2 s2
  obtain ⟨f, hf⟩ : ∃ f, f = decide (2 ^ 8 ≤ x2) := ⟨_, rfl⟩
  have e3 := sh_nat f 8 (by omega) x2
  have b3 := half_lt (m := 8) hf (by omega) (by omega)
  have s3 := half (c := if e then (if d then 0 + 32 else 0) + 16 else (if d then 0 + 32 else 0)) hf
  obtain ⟨x3, hx3⟩ : ∃ x, x = (if f then x2 / 2 ^ 8 else x2) := ⟨_, rfl⟩
  rw [← hx3] at e3 b3 s3
  have r0 : ad0 d = ((if d then 0 + 32 else 0 : Nat) : Int) := by cases d <;> rfl
  obtain ⟨y0, hy0⟩ : ∃ y, y = (if d then 0 + 32 else 0) := ⟨_, rfl⟩
  have z0 : y0 ≤ 32 := by rw [hy0]; split <;> omega
  rw [← hy0] at r0 s1 s2 s3
  have r1 := ad_nat e 16 y0 (by omega) (by omega)
  obtain ⟨y1, hy1⟩ : ∃ y, y = (if e then y0 + 16 else y0) := ⟨_, rfl⟩
  have z1 : y1 ≤ 48 := by rw [hy1]; split <;> omega
  rw [← hy1] at r1 s2 s3
  have r2 := ad_nat f 8 y1 (by omega) (by omega)
  obtain ⟨y2, hy2⟩ : ∃ y, y = (if f then y1 + 8 else y1) := ⟨_, rfl⟩
  have z2 : y2 ≤ 56 := by rw [hy2]; split <;> omega
  rw [← hy2] at r2 s3
  have hb : blen x3 ≤ 8 := blen_le b3
  have g1 : sh d 32 (n : Int) = (x1 : Int) := e1
  have g2 : sh e 16 (x1 : Int) = (x2 : Int) := e2
  have g3 : sh f 8 (x2 : Int) = (x3 : Int) := e3
  have q1 : ad e 16 (y0 : Int) = (y1 : Int) := r1
  have q2 : ad f 8 (y1 : Int) = (y2 : Int) := r2
  have b3' : x3 < 256 := b3
  refine Pure.by_run mixed _ 100 _ _ (len64_run d e f n) ?_ (SameV.int ?_).r
  · simp only [g1, g2, g3, wrap_u8_id b3']
    intro b hb
    simp only [List.mem_cons, List.not_mem_nil, or_false] at hb
    rcases hb with hb | hb | hb | hb <;> rw [hb]
    · rw [hd]; simp only [beq_iff_eq, decide_eq_decide]; omega
    · rw [he]; simp only [beq_iff_eq, decide_eq_decide]; omega
    · rw [hf]; simp only [beq_iff_eq, decide_eq_decide]; omega
    · rw [tab8_size]
      simp only [Bool.and_eq_true, decide_eq_true_eq]; omega
  · simp only [g1, g2, g3, wrap_u8_id b3', r0, q1, q2, Int.toNat_natCast, tab8_at b3']
    rw [wrap_i64_id (n := (blen x3 : Int)) (by omega) (by omega), wrap_i64_id (by omega) (by omega)]
    omega
noncomputable def c_len64 : Ctr Try.prog := Ctr.n1 75 (fun n => .int .i64 (blen n)) len64_ok
end Go.Proofs.Ytglcjmnkhmdlhaa

/- Contracts: how many bits a number has (num.Bits, truceref01.Bits). -/
namespace Go.Proofs.Ytglcjmnkhmdlhaa
open Go Go.RowKit

noncomputable def X14 (f : Nat) (h t : List (Nat × Bool)) (j : Nat) : EnvX Try.prog := { cs := [c_len64], fis := [fi_num_Bits, fi_truceref01_Bits], lcs := [], br := brAt f 3 j h t }
def bitsV (a : BitVec 256) (j : Nat) : Int := IntKind.i64.wrap (((64 * j : Nat) : Int) + (blen (limb a j).toNat : Int))
theorem num_Bits_run3 (a : BitVec 256) : (callX (X14 67 [(2, false)] [(2, true)] 4) (exec (X14 67 [(2, false)] [(2, true)] 4) 100) 67 [.u a] [] 0).map (fun r => (r.1, r.2.1)) =
    some ([(limb a 3 == 0) == false, inR (limb a 3)], .int .i64 (bitsV a 3)) := by kernel_rfl
theorem ref_Bits_run3 (a : BitVec 256) : (callX (X14 57 [(4, true)] [(4, false)] 3) (exec (X14 57 [(4, true)] [(4, false)] 3) 100) 57 [.u a] [] 0).map (fun r => (r.1, r.2.1)) =
    some ([(limb a 3 != 0) == true, inR (limb a 3)], .int .i64 (bitsV a 3)) := by kernel_rfl
theorem num_Bits_run2 (a : BitVec 256) : (callX (X14 67 [(2, false)] [(2, true)] 3) (exec (X14 67 [(2, false)] [(2, true)] 3) 100) 67 [.u a] [] 0).map (fun r => (r.1, r.2.1)) =
    some ([(limb a 3 == 0) == true, (limb a 2 == 0) == false, inR (limb a 2)], .int .i64 (bitsV a 2)) := by kernel_rfl
theorem ref_Bits_run2 (a : BitVec 256) : (callX (X14 57 [(4, true)] [(4, false)] 2) (exec (X14 57 [(4, true)] [(4, false)] 2) 100) 57 [.u a] [] 0).map (fun r => (r.1, r.2.1)) =
    some ([(limb a 3 != 0) == false, (limb a 2 != 0) == true, inR (limb a 2)], .int .i64 (bitsV a 2)) := by kernel_rfl
theorem num_Bits_run1 (a : BitVec 256) : (callX (X14 67 [(2, false)] [(2, true)] 2) (exec (X14 67 [(2, false)] [(2, true)] 2) 100) 67 [.u a] [] 0).map (fun r => (r.1, r.2.1)) =
    some ([(limb a 3 == 0) == true, (limb a 2 == 0) == true, (limb a 1 == 0) == false, inR (limb a 1)], .int .i64 (bitsV a 1)) := by kernel_rfl
theorem ref_Bits_run1 (a : BitVec 256) : (callX (X14 57 [(4, true)] [(4, false)] 1) (exec (X14 57 [(4, true)] [(4, false)] 1) 100) 57 [.u a] [] 0).map (fun r => (r.1, r.2.1)) =
    some ([(limb a 3 != 0) == false, (limb a 2 != 0) == false, (limb a 1 != 0) == true, inR (limb a 1)], .int .i64 (bitsV a 1)) := by kernel_rfl
theorem num_Bits_run0 (a : BitVec 256) : (callX (X14 67 [(2, false)] [(2, true)] 1) (exec (X14 67 [(2, false)] [(2, true)] 1) 100) 67 [.u a] [] 0).map (fun r => (r.1, r.2.1)) =
    some ([(limb a 3 == 0) == true, (limb a 2 == 0) == true, (limb a 1 == 0) == true, (limb a 0 == 0) == false, inR (limb a 0)], .int .i64 (bitsV a 0)) := by kernel_rfl
theorem ref_Bits_run0 (a : BitVec 256) : (callX (X14 57 [(4, true)] [(4, false)] 0) (exec (X14 57 [(4, true)] [(4, false)] 0) 100) 57 [.u a] [] 0).map (fun r => (r.1, r.2.1)) =
    some ([(limb a 3 != 0) == false, (limb a 2 != 0) == false, (limb a 1 != 0) == false, (limb a 0 != 0) == true, inR (limb a 0)], .int .i64 (bitsV a 0)) := by kernel_rfl
theorem num_Bits_run9 (a : BitVec 256) : (callX (X14 67 [(2, false)] [(2, true)] 0) (exec (X14 67 [(2, false)] [(2, true)] 0) 100) 67 [.u a] [] 0).map (fun r => (r.1, r.2.1)) =
    some ([(limb a 3 == 0) == true, (limb a 2 == 0) == true, (limb a 1 == 0) == true, (limb a 0 == 0) == true, true], .int .i64 0) := by kernel_rfl
theorem ref_Bits_run9 (a : BitVec 256) : (callX (X14 57 [] [(4, false)] 9) (exec (X14 57 [] [(4, false)] 9) 100) 57 [.u a] [] 0).map (fun r => (r.1, r.2.1)) =
    some ([(limb a 3 != 0) == false, (limb a 2 != 0) == false, (limb a 1 != 0) == false, (limb a 0 != 0) == false], .int .i64 0) := by kernel_rfl

theorem blen_nat4 {y k m : Nat} (hy : y ≠ 0) (h : m = y * 2 ^ k + m % 2 ^ k) : blen m = k + blen y := by
  have hk : 0 < 2 ^ k := Nat.two_pow_pos k
  have h1 : m / 2 ^ k = y := by
    rw [Nat.div_eq_iff hk]
    have := Nat.mod_lt m hk
    rw [Nat.mul_comm] at h
    constructor
    · rw [Nat.mul_comm]; omega
    · rw [Nat.mul_comm]; omega
  have h2 : 2 ^ k ≤ m := by
    rcases Nat.lt_or_ge m (2 ^ k) with h3 | h3
    · rw [Nat.div_eq_of_lt h3] at h1; omega
    · exact h3
  have := blen_div h2
  rw [h1] at this
  omega
theorem bitsV_eq {a : BitVec 256} {j y : Nat} (hj : j < 4) (hy : limb a j = y) (hy0 : y ≠ 0) (hlt : y < 18446744073709551616) (h : a.toNat = y * 2 ^ (64 * j) + a.toNat % 2 ^ (64 * j)) : bitsV a j = (blen a.toNat : Int) := by
  unfold bitsV
  have hb : blen y ≤ 64 := blen_le hlt
  rw [hy, Int.toNat_natCast, wrap_i64_id (by omega) (by omega), blen_nat4 hy0 h]
  rfl
theorem four_div (a b c d : Nat) (hb : b < 18446744073709551616) (ha : a < 18446744073709551616) (hc : c < 18446744073709551616) : nat4 a b c d = d * 2 ^ (64 * 3) + nat4 a b c d % 2 ^ (64 * 3) := by unfold nat4; omega
theorem four_div2 (a b c : Nat) (hb : b < 18446744073709551616) (ha : a < 18446744073709551616) : nat4 a b c 0 = c * 2 ^ (64 * 2) + nat4 a b c 0 % 2 ^ (64 * 2) := by unfold nat4; omega
theorem four_div1 (a b : Nat) (ha : a < 18446744073709551616) : nat4 a b 0 0 = b * 2 ^ (64 * 1) + nat4 a b 0 0 % 2 ^ (64 * 1) := by unfold nat4; omega
theorem four_div0 (a : Nat) : nat4 a 0 0 0 = a * 2 ^ (64 * 0) + nat4 a 0 0 0 % 2 ^ (64 * 0) := by unfold nat4; omega
theorem inR_limb {y : Nat} (h : y < 18446744073709551616) : inR (y : Int) = true := by simp only [inR, Bool.and_eq_true, decide_eq_true_eq]; omega
theorem num_Bits_ok (a : BitVec 256) : Pure Try.prog 67 [.u a] (.int .i64 (blen a.toNat)) := by
  obtain ⟨a0, a1, a2, a3, h0, h1, h2, h3, e0, e1, e2, e3, ha⟩ := limbs_nat a
  have ha : a.toNat = nat4 a0 a1 a2 a3 := ha
  by_cases z3 : a3 = 0
  · subst z3
    by_cases z2 : a2 = 0
    · subst z2
      by_cases z1 : a1 = 0
      · subst z1
        by_cases z0 : a0 = 0
        · subst z0
          exact Pure.by_run mixed _ 100 _ _ (num_Bits_run9 a) (by simp [e0, e1, e2, e3]) (SameV.int (by rw [ha]; rfl)).r
        · exact Pure.by_run mixed _ 100 _ _ (num_Bits_run0 a) (by simp [e0, e1, e2, e3, z0, inR_limb h0]) (SameV.int (bitsV_eq (by omega) e0 z0 h0 (by rw [ha]; exact four_div0 _))).r
      · exact Pure.by_run mixed _ 100 _ _ (num_Bits_run1 a) (by simp [e1, e2, e3, z1, inR_limb h1]) (SameV.int (bitsV_eq (by omega) e1 z1 h1 (by rw [ha]; exact four_div1 _ _ h0))).r
    · exact Pure.by_run mixed _ 100 _ _ (num_Bits_run2 a) (by simp [e2, e3, z2, inR_limb h2]) (SameV.int (bitsV_eq (by omega) e2 z2 h2 (by rw [ha]; exact four_div2 _ _ _ h1 h0))).r
  · exact Pure.by_run mixed _ 100 _ _ (num_Bits_run3 a) (by simp [e3, z3, inR_limb h3]) (SameV.int (bitsV_eq (by omega) e3 z3 h3 (by rw [ha]; exact four_div _ _ _ _ h1 h0 h2))).r
noncomputable def c_num_Bits : Ctr Try.prog := Ctr.u1 67 (fun a => .int .i64 (blen a.toNat)) num_Bits_ok
theorem ref_Bits_ok (a : BitVec 256) : Pure Try.prog 57 [.u a] (.int .i64 (blen a.toNat)) := by
  obtain ⟨a0, a1, a2, a3, h0, h1, h2, h3, e0, e1, e2, e3, ha⟩ := limbs_nat a
  have ha : a.toNat = nat4 a0 a1 a2 a3 := ha
  by_cases z3 : a3 = 0
  · subst z3
    by_cases z2 : a2 = 0
    · subst z2
      by_cases z1 : a1 = 0
      · subst z1
        by_cases z0 : a0 = 0
        · subst z0
          exact Pure.by_run mixed _ 100 _ _ (ref_Bits_run9 a) (by simp [e0, e1, e2, e3]) (SameV.int (by rw [ha]; rfl)).r
        · exact Pure.by_run mixed _ 100 _ _ (ref_Bits_run0 a) (by simp [e0, e1, e2, e3, z0, inR_limb h0]) (SameV.int (bitsV_eq (by omega) e0 z0 h0 (by rw [ha]; exact four_div0 _))).r
      · exact Pure.by_run mixed _ 100 _ _ (ref_Bits_run1 a) (by simp [e1, e2, e3, z1, inR_limb h1]) (SameV.int (bitsV_eq (by omega) e1 z1 h1 (by rw [ha]; exact four_div1 _ _ h0))).r
    · exact Pure.by_run mixed _ 100 _ _ (ref_Bits_run2 a) (by simp [e2, e3, z2, inR_limb h2]) (SameV.int (bitsV_eq (by omega) e2 z2 h2 (by rw [ha]; exact four_div2 _ _ _ h1 h0))).r
  · exact Pure.by_run mixed _ 100 _ _ (ref_Bits_run3 a) (by simp [e3, z3, inR_limb h3]) (SameV.int (bitsV_eq (by omega) e3 z3 h3 (by rw [ha]; exact four_div _ _ _ _ h1 h0 h2))).r
noncomputable def c_ref_Bits : Ctr Try.prog := Ctr.u1 57 (fun a => .int .i64 (blen a.toNat)) ref_Bits_ok
end Go.Proofs.Ytglcjmnkhmdlhaa

/- Numbers of bytes, the highest first. -/
namespace Go.Proofs.Ytglcjmnkhmdlhaa
open Go Go.RowKit

def beN (l : List UInt8) : Nat := l.foldl (fun n b => n * 256 + b.toNat) 0
theorem beN_fold (l : List UInt8) : ∀ acc : Nat, l.foldl (fun n b => n * 256 + b.toNat) acc = acc * 256 ^ l.length + beN l := by
  induction l with
  | nil => intro acc; simp [beN]
  | cons b l ih =>
    intro acc
    have h1 := ih (acc * 256 + b.toNat)
    have h2 := ih (0 * 256 + b.toNat)
    unfold beN at h2 ⊢
    simp only [List.foldl_cons, List.length_cons]
    rw [h1, h2]
    unfold beN
    rw [Nat.pow_succ, Nat.add_mul, Nat.zero_mul, Nat.zero_add, ← Nat.add_assoc, Nat.mul_assoc acc 256, Nat.mul_comm 256]
theorem beN_cons (b : UInt8) (l : List UInt8) : beN (b :: l) = b.toNat * 256 ^ l.length + beN l := by
  have := beN_fold l (0 * 256 + b.toNat)
  rw [Nat.zero_mul, Nat.zero_add] at this
  unfold beN
  simp only [List.foldl_cons]
  rw [Nat.zero_mul, Nat.zero_add, this]
  rfl
theorem beN_lt : ∀ l : List UInt8, beN l < 256 ^ l.length
  | [] => by simp [beN]
  | b :: l => by
    have h1 := beN_lt l
    have h2 : b.toNat < 256 := b.toNat_lt
    rw [beN_cons, List.length_cons, Nat.pow_succ]
    have h3 : (b.toNat + 1) * 256 ^ l.length ≤ 256 * 256 ^ l.length := Nat.mul_le_mul_right _ (by omega)
    rw [Nat.add_mul, Nat.one_mul] at h3
    rw [Nat.mul_comm (256 ^ l.length)]
    omega
theorem beN_take (l : List UInt8) {i : Nat} (h : i < l.length) : beN (l.take (i + 1)) = beN (l.take i) * 256 + (l.getD i 0).toNat := by
  have h1 : l.take (i + 1) = l.take i ++ [l.getD i 0] := by
    rw [List.take_add_one, List.getD, List.getElem?_eq_getElem h]; rfl
  rw [h1]
  unfold beN
  rw [List.foldl_append]
  rfl
theorem beN_drop (l : List UInt8) {i : Nat} (h : i < l.length) : beN (l.drop (l.length - (i + 1))) = (l.getD (l.length - 1 - i) 0).toNat * 256 ^ i + beN (l.drop (l.length - i)) := by
  have h1 : l.drop (l.length - (i + 1)) = l.getD (l.length - 1 - i) 0 :: l.drop (l.length - i) := by
    have h2 : l.length - (i + 1) < l.length := by omega
    rw [List.drop_eq_getElem_cons h2, List.getD, List.getElem?_eq_getElem (by omega)]
    have e1 : l.length - 1 - i + 1 = l.length - i := by omega
    have e2 : l.length - (i + 1) = l.length - 1 - i := by omega
    simp only [e2, e1]
    rfl
  rw [h1, beN_cons, List.length_drop]
  have : l.length - (l.length - i) = i := by omega
  rw [this]

/-- A byte behind a number. -/
theorem shl8_or (n b : Nat) (hb : b < 256) : (BitVec.ofNat 256 n <<< 8) ||| BitVec.ofNat 256 b = BitVec.ofNat 256 (n * 256 + b) := by
  have h1 : BitVec.ofNat 256 n <<< 8 = BitVec.ofNat 256 (n * 256) := by
    apply BitVec.eq_of_toNat_eq
    rw [BitVec.toNat_shiftLeft, BitVec.toNat_ofNat, BitVec.toNat_ofNat, Nat.shiftLeft_eq]
    omega
  have h2 : n * 256 ||| b = n * 256 + b := by
    have := Nat.shiftLeft_add_eq_or_of_lt (i := 8) (b := b) (by omega) n
    rw [Nat.shiftLeft_eq] at this
    exact this.symm
  rw [h1, ← h2]
  apply BitVec.eq_of_getLsbD_eq
  intro i hi
  simp only [BitVec.getLsbD_or, BitVec.getLsbD_ofNat, Nat.testBit_or]
  cases decide (i < 256) <;> simp
theorem byte_or (m b i : Nat) (hm : m < 256 ^ i) : BitVec.ofNat 256 m ||| (BitVec.ofNat 256 b <<< (8 * i)) = BitVec.ofNat 256 (b * 256 ^ i + m) := by
  have hp : 256 ^ i = 2 ^ (8 * i) := by rw [Nat.pow_mul]
  have h1 : BitVec.ofNat 256 b <<< (8 * i) = BitVec.ofNat 256 (b * 256 ^ i) := by
    apply BitVec.eq_of_toNat_eq
    rw [BitVec.toNat_shiftLeft, BitVec.toNat_ofNat, BitVec.toNat_ofNat, Nat.shiftLeft_eq, hp, Nat.mod_mul_mod]
  have h2 : b * 256 ^ i ||| m = b * 256 ^ i + m := by
    have := Nat.shiftLeft_add_eq_or_of_lt (i := 8 * i) (b := m) (by rw [← hp]; exact hm) b
    rw [Nat.shiftLeft_eq, ← hp] at this
    exact this.symm
  rw [h1, ← h2]
  apply BitVec.eq_of_getLsbD_eq
  intro j hj
  simp only [BitVec.getLsbD_or, BitVec.getLsbD_ofNat, Nat.testBit_or]
  cases decide (j < 256) <;> simp [Bool.or_comm]

theorem limb_small (b : Nat) (hb : b < 18446744073709551616) : limb (BitVec.ofNat 256 b) 0 = b ∧ limb (BitVec.ofNat 256 b) 1 = 0 ∧ limb (BitVec.ofNat 256 b) 2 = 0 ∧ limb (BitVec.ofNat 256 b) 3 = 0 := by
  have hx : (BitVec.ofNat 256 b).toNat = b + 18446744073709551616 * (0 + 18446744073709551616 * (0 + 18446744073709551616 * 0)) := by
    rw [BitVec.toNat_ofNat]; omega
  obtain ⟨h0, h1, h2, h3⟩ := limb_of hb (by omega) (by omega) (by omega) hx
  exact ⟨h0, h1, h2, h3⟩
theorem ior_zero (x : BitVec 256) (i : Nat) : ior .u64 (limb x i) 0 = limb x i := by
  have h0 : limb (0#256) i = 0 := by simp [limb]
  have := ior_limb x (0#256) i
  rw [h0] at this
  rw [this]
  simp

theorem part_byte {b i p : Nat} (hb : b < 256) (hp : p < 4) : part (BitVec.ofNat 256 b <<< (8 * i)) p = if p = i / 8 then BitVec.ofNat 64 b <<< (8 * (i % 8)) else 0#64 := by
  have hbit : ∀ m, 8 ≤ m → b.testBit m = false := fun m hm => Nat.testBit_lt_two_pow (Nat.lt_of_lt_of_le hb (by rw [show 256 = 2 ^ 8 from rfl]; exact Nat.pow_le_pow_right (by omega) hm))
  split
  · rename_i h
    subst h
    unfold part
    ext j hj
    simp only [BitVec.getElem_extractLsb', BitVec.getLsbD_shiftLeft, BitVec.getLsbD_ofNat, BitVec.getElem_shiftLeft]
    have h1 : 64 * (i / 8) + j < 256 := by omega
    by_cases h2 : j < 8 * (i % 8)
    · have h3 : 64 * (i / 8) + j < 8 * i := by omega
      simp [h2, h3]
    · have h3 : ¬ 64 * (i / 8) + j < 8 * i := by omega
      have h4 : 64 * (i / 8) + j - 8 * i = j - 8 * (i % 8) := by omega
      have h5 : j - 8 * (i % 8) < 256 := by omega
      simp only [h1, h2, h3, h4, h5]
      have h6 : j - 8 * (i % 8) < 64 := by omega
      rw [← BitVec.getLsbD_eq_getElem, BitVec.getLsbD_ofNat]
      simp [h6]
  · rename_i h
    unfold part
    ext j hj
    simp only [BitVec.getElem_extractLsb', BitVec.getLsbD_shiftLeft, BitVec.getLsbD_ofNat, BitVec.getElem_zero]
    by_cases h3 : 64 * p + j < 8 * i
    · simp [h3]
    · rw [hbit (64 * p + j - 8 * i) (by omega)]
      simp

/-- The byte's step of 'num.Read'. -/
theorem num_read_step (n b : Nat) (hb : b < 256) : [ior .u64 (limb (BitVec.ofNat 256 n <<< 8) 0) (b : Int), limb (BitVec.ofNat 256 n <<< 8) 1, limb (BitVec.ofNat 256 n <<< 8) 2, limb (BitVec.ofNat 256 n <<< 8) 3] =
    [limb (BitVec.ofNat 256 (n * 256 + b)) 0, limb (BitVec.ofNat 256 (n * 256 + b)) 1, limb (BitVec.ofNat 256 (n * 256 + b)) 2, limb (BitVec.ofNat 256 (n * 256 + b)) 3] := by
  obtain ⟨e0, e1, e2, e3⟩ := limb_small b (by omega)
  rw [← shl8_or n b hb, ← ior_limb, ← ior_limb, ← ior_limb, ← ior_limb, e0, e1, e2, e3, ior_zero, ior_zero, ior_zero]

/-- Of all its bytes a number is read again. -/
theorem beN_digits (a : Nat) (l : List UInt8) (n : Nat) (hl : l.length = n) (h : ∀ j, j < n → (l.getD j 0).toNat = a / 256 ^ (n - 1 - j) % 256) (ha : a < 256 ^ n) : beN l = a := by
  have key : ∀ j, j ≤ n → beN (l.take j) = a / 256 ^ (n - j) := by
    intro j
    induction j with
    | zero =>
      intro _
      rw [Nat.sub_zero, Nat.div_eq_of_lt ha]
      rfl
    | succ j ih =>
      intro hj
      rw [beN_take l (by omega), ih (by omega), h j (by omega)]
      have e1 : n - j = (n - (j + 1)) + 1 := by omega
      have e2 : n - 1 - j = n - (j + 1) := by omega
      rw [e1, e2, Nat.pow_succ, ← Nat.div_div_eq_div_mul]
      omega
  have := key n (Nat.le_refl n)
  rw [Nat.sub_self, Nat.pow_zero, Nat.div_one, List.take_of_length_le (by omega)] at this
  exact this
end Go.Proofs.Ytglcjmnkhmdlhaa

/- Contracts: numbers read of bytes (num.Read, truceref01.Read). -/
namespace Go.Proofs.Ytglcjmnkhmdlhaa
open Go Go.RowKit

/-- The byte's step of 'truceref01.Read'. -/
theorem ref_read_step (m b i : Nat) (hb : b < 256) (hi : i < 32) (hm : m < 256 ^ i) :
    ([limb (BitVec.ofNat 256 m) 0, limb (BitVec.ofNat 256 m) 1, limb (BitVec.ofNat 256 m) 2, limb (BitVec.ofNat 256 m) 3].set (i / 8) (ior .u64 (limb (BitVec.ofNat 256 m) (i / 8)) (ishl .u64 (b : Int) ((8 * (i % 8) : Nat) : Int)))) =
    [limb (BitVec.ofNat 256 (b * 256 ^ i + m)) 0, limb (BitVec.ofNat 256 (b * 256 ^ i + m)) 1, limb (BitVec.ofNat 256 (b * 256 ^ i + m)) 2, limb (BitVec.ofNat 256 (b * 256 ^ i + m)) 3] := by
  rw [← byte_or m b i hm]
  have hp : ∀ p, p < 4 → part (BitVec.ofNat 256 m ||| BitVec.ofNat 256 b <<< (8 * i)) p = part (BitVec.ofNat 256 m) p ||| (if p = i / 8 then BitVec.ofNat 64 b <<< (8 * (i % 8)) else 0#64) := by
    intro p hp
    rw [← part_byte hb hp]
    unfold part
    rw [BitVec.extractLsb'_or]
  refine set_four (f := fun p => limb (BitVec.ofNat 256 m ||| BitVec.ofNat 256 b <<< (8 * i)) p) ?_ (by omega) ?_ rfl
  · intro p hp4 hne
    have : limb (BitVec.ofNat 256 m) p = limb (BitVec.ofNat 256 m ||| BitVec.ofNat 256 b <<< (8 * i)) p := by
      rw [limb_part, limb_part, hp p hp4, if_neg hne]
      simp
    rcases p with _ | _ | _ | _ | p
    · exact this
    · exact this
    · exact this
    · exact this
    · omega
  · show _ = limb (BitVec.ofNat 256 m ||| BitVec.ofNat 256 b <<< (8 * i)) (i / 8)
    rw [limb_part, limb_part, hp _ (by omega), if_pos rfl]
    have hbb : (b : Int) = ((BitVec.ofNat 64 b).toNat : Int) := by
      rw [BitVec.toNat_ofNat]; omega
    rw [hbb, ishl_bv _ _ (by omega), ior_bv]

noncomputable def X15 (d : Bool) : EnvX Try.prog := { cs := [], fis := [], lcs := [], br := brL [(999999, 5, d), (999999, 6, d)], hint := hAll { sym := true } 999999 [8] (symAt 999999 [8]) }
def nrPath : List Nat := [0, 1, 0, 1, 1, 1]
def rrPath : List Nat := [0, 1, 0, 1, 1, 1, 1]
def nrSt (s : ByteArray) (N : Nat) (i : Int) (o : AV) : St := ⟨pat N 0 [(0, .str s), (2, .ptr 0 []), (3, .int .i64 0), (4, .ptr 5 []), (11, .int .i64 s.size), (12, .int .i64 i)], [some ⟨24, .ints .u64 4 [0, 0, 0, 0], true⟩, none, none, none, none, some ⟨24, o, true⟩], 6⟩
def rrSt (s : ByteArray) (N : Nat) (i : Int) (o : AV) : St := ⟨pat N 0 [(0, .str s), (2, .ptr 0 []), (3, .int .i64 0), (4, .ptr 2 []), (5, .int .i64 s.size), (6, .int .i64 i)], [some ⟨24, .ints .u64 4 [0, 0, 0, 0], true⟩, none, some ⟨24, o, true⟩], 3⟩

def uread (s : ByteArray) : BitVec 256 := BitVec.ofNat 256 (beN s.data.toList)
theorem byteAt_nat (s : ByteArray) (i : Nat) : byteAt s i = ((s.data.toList.getD i 0).toNat : Int) := rfl
theorem nrSim {s : ByteArray} {N : Nat} {i : Int} {l : List Int} {y : BitVec 256} (h : l = [limb y 0, limb y 1, limb y 2, limb y 3]) : Sim (nrSt s N i (.ints .u64 4 l)) (nrSt s N i (.u y)) :=
  Sim.of (SimS.refl _) ⟨⟨rfl, rfl, SimC.refl _⟩, trivial, trivial, trivial, trivial, ⟨rfl, rfl, SimC.u4 h⟩, trivial⟩
theorem rrSim {s : ByteArray} {N : Nat} {i : Int} {l : List Int} {y : BitVec 256} (h : l = [limb y 0, limb y 1, limb y 2, limb y 3]) : Sim (rrSt s N i (.ints .u64 4 l)) (rrSt s N i (.u y)) :=
  Sim.of (SimS.refl _) ⟨⟨rfl, rfl, SimC.refl _⟩, trivial, ⟨rfl, rfl, SimC.u4 h⟩, trivial⟩
def rrV (s : ByteArray) (i : Int) (x : BitVec 256) : AV := .ints .u64 4 ([limb x 0, limb x 1, limb x 2, limb x 3].set (IntKind.i64.wrap (i.tdiv 8)).toNat (ior .u64 (limb x (IntKind.i64.wrap (i.tdiv 8)).toNat)
  (ishl .u64 (IntKind.u64.wrap (byteAt s (IntKind.i64.wrap (IntKind.i64.wrap ((s.size : Int) - 1) - i)).toNat)) (IntKind.u64.wrap (IntKind.i64.wrap (8 * i.tmod 8))))))
theorem size_list (s : ByteArray) : s.data.toList.length = s.size := by rw [Array.length_toList]; rfl
theorem zero_nat : BitVec.ofNat 256 0 = 0#256 := rfl
noncomputable def X16 (l : List (LC Try.prog)) (d : Bool) : EnvX Try.prog := { cs := [], fis := [], lcs := l, br := brL [(999999, 1, d), (999999, 3, d)] }
end Go.Proofs.Ytglcjmnkhmdlhaa

/- Contracts: numbers read of bytes; a number's bytes are read as it. -/
namespace Go.Proofs.Ytglcjmnkhmdlhaa
open Go Go.RowKit

section
variable {P : Program}
def Ctr.s1 (f : Nat) (F : ByteArray → AV) (ok : ∀ s, Pure P f [.str s] (F s)) : Ctr P :=
  Ctr.of f (fun | [.str s] => some ([], F s) | _ => none) (by
    intro args ob v h _
    split at h <;> simp at h
    obtain ⟨_, rfl⟩ := h
    exact ok _)
end
def readU (s : ByteArray) : BitVec 256 := if s.size ≤ 32 then uread s else 0#256
def readE (s : ByteArray) : Int := if s.size ≤ 32 then 0 else 3
def readOut (s : ByteArray) : AV := .tup [.u (readU s), .int .i64 (readE s)]
/-! ### A number's bytes -/
theorem ubyte_eq (a : BitVec 256) (j : Nat) : ubyte a j = ((a.toNat / 256 ^ (31 - j) % 256 : Nat) : Int) := by
  unfold ubyte
  rw [limb_part, ishr_bv _ _ (by omega)]
  have h1 : ((part a ((31 - j) / 8)) >>> (8 * ((31 - j) % 8))).toNat % 256 = a.toNat / 256 ^ (31 - j) % 256 := by
    have hp : 256 ^ (31 - j) = 2 ^ (64 * ((31 - j) / 8) + 8 * ((31 - j) % 8)) := by
      rw [show 64 * ((31 - j) / 8) + 8 * ((31 - j) % 8) = 8 * (31 - j) by omega, Nat.pow_mul]
    rw [hp, BitVec.toNat_ushiftRight, Nat.shiftRight_eq_div_pow]
    unfold part
    rw [BitVec.extractLsb'_toNat, Nat.shiftRight_eq_div_pow, Nat.pow_add, ← Nat.div_div_eq_div_mul]
    generalize a.toNat / 2 ^ (64 * ((31 - j) / 8)) = y
    have hr : (31 - j) % 8 < 8 := by omega
    generalize (31 - j) % 8 = r at hr
    have hm : (2 : Nat) ^ 64 = 2 ^ (8 * r) * 2 ^ (64 - 8 * r) := by rw [← Nat.pow_add]; congr 1; omega
    have hd : 256 ∣ 2 ^ (64 - 8 * r) := by
      rw [show (256 : Nat) = 2 ^ 8 from rfl]
      exact Nat.pow_dvd_pow 2 (by omega)
    rw [hm, Nat.mod_mul_right_div_self, Nat.mod_mod_of_dvd _ hd]
  have h2 : IntKind.u8.wrap ((((part a ((31 - j) / 8)) >>> (8 * ((31 - j) % 8))).toNat : Nat) : Int) = ((((part a ((31 - j) / 8)) >>> (8 * ((31 - j) % 8))).toNat % 256 : Nat) : Int) := by
    simp [IntKind.wrap, IntKind.signed, IntKind.bits]
  rw [h2, h1]
theorem ubytes_list (a : BitVec 256) : (ubytes a).data.toList = (List.range 32).map (fun j => UInt8.ofNat (ubyte a j).toNat) := by
  unfold ubytes bytesOf
  simp
theorem ubytes_size (a : BitVec 256) : (ubytes a).size = 32 := by
  rw [← size_list, ubytes_list]; simp
theorem ubytes_read (a : BitVec 256) : readU (ubytes a) = a := by
  rw [readU, if_pos (by rw [ubytes_size]; omega)]
  unfold uread
  have : beN (ubytes a).data.toList = a.toNat := by
    refine beN_digits a.toNat _ 32 (by rw [size_list, ubytes_size]) ?_ (Nat.lt_of_lt_of_le a.isLt (by decide))
    intro j hj
    rw [ubytes_list, List.getD, List.getElem?_map, List.getElem?_range hj]
    simp only [Option.map_some, Option.getD_some, ubyte_eq a j, Int.toNat_natCast, UInt8.toNat_ofNat']
    rw [show 32 - 1 - j = 31 - j by omega]
    omega
  rw [this]
  simp
theorem ubytes_err (a : BitVec 256) : readE (ubytes a) = 0 := by rw [readE, if_pos (by rw [ubytes_size]; omega)]
end Go.Proofs.Ytglcjmnkhmdlhaa

