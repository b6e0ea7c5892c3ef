/- Texts of this claim, one behind the other. -/
import Derived.Test.YtglcjmnkhmdlhaaK6
import Derived.Test.YtglcjmnkhmdlhaaK5
import Derived.Test.YtglcjmnkhmdlhaaK3

/- Contracts: the curve's numbers: a row of a product. -/
namespace Go.Proofs.Ytglcjmnkhmdlhaa
open Go Go.RowKit
noncomputable def fX1 : EnvT Try.prog := { cs := [cAdd64, cSub64, c_mul64, c_num_Of, c_num_Cmp], fis := [fi_curve_row, fi_curve_bring, fi_curve_cut, fi_curve_minus] }
def rowT (a0 a1 a2 a3 y r0 r1 r2 r3 : Int) : T AV :=
    (.need true
    (.need true
    (.need (inR a0)
    (.need (inR y)
    (.need true
    (.need true
    (.need (inR a1)
    (.need (inR y)
    (.need true
    (.need true
    (.need (inR a2)
    (.need (inR y)
    (.need true
    (.need true
    (.need (inR a3)
    (.need (inR y)
    (.need true
    (.need (Nat.ble (Int.toNat (addC (((mulLo (Int.toNat a1) (Int.toNat y)) : Nat) : Int) (((mulHi (Int.toNat a0) (Int.toNat y)) : Nat) : Int) (0 : Int))) 1)
    (.need (Nat.ble (Int.toNat (addC (((mulLo (Int.toNat a2) (Int.toNat y)) : Nat) : Int) (((mulHi (Int.toNat a1) (Int.toNat y)) : Nat) : Int) (addC (((mulLo (Int.toNat a1) (Int.toNat y)) : Nat) : Int) (((mulHi (Int.toNat a0) (Int.toNat y)) : Nat) : Int) (0 : Int)))) 1)
    (.need true
    (.need (Nat.ble (Int.toNat (addC r0 (((mulLo (Int.toNat a0) (Int.toNat y)) : Nat) : Int) (0 : Int))) 1)
    (.need (Nat.ble (Int.toNat (addC r1 (addS (((mulLo (Int.toNat a1) (Int.toNat y)) : Nat) : Int) (((mulHi (Int.toNat a0) (Int.toNat y)) : Nat) : Int) (0 : Int)) (addC r0 (((mulLo (Int.toNat a0) (Int.toNat y)) : Nat) : Int) (0 : Int)))) 1)
    (.need (Nat.ble (Int.toNat (addC r2 (addS (((mulLo (Int.toNat a2) (Int.toNat y)) : Nat) : Int) (((mulHi (Int.toNat a1) (Int.toNat y)) : Nat) : Int) (addC (((mulLo (Int.toNat a1) (Int.toNat y)) : Nat) : Int) (((mulHi (Int.toNat a0) (Int.toNat y)) : Nat) : Int) (0 : Int))) (addC r1 (addS (((mulLo (Int.toNat a1) (Int.toNat y)) : Nat) : Int) (((mulHi (Int.toNat a0) (Int.toNat y)) : Nat) : Int) (0 : Int)) (addC r0 (((mulLo (Int.toNat a0) (Int.toNat y)) : Nat) : Int) (0 : Int))))) 1)
    (.leaf (.tup [(.int .u64 (addS r0 (((mulLo (Int.toNat a0) (Int.toNat y)) : Nat) : Int) (0 : Int))), (.int .u64 (addS r1 (addS (((mulLo (Int.toNat a1) (Int.toNat y)) : Nat) : Int) (((mulHi (Int.toNat a0) (Int.toNat y)) : Nat) : Int) (0 : Int)) (addC r0 (((mulLo (Int.toNat a0) (Int.toNat y)) : Nat) : Int) (0 : Int)))), (.int .u64 (addS r2 (addS (((mulLo (Int.toNat a2) (Int.toNat y)) : Nat) : Int) (((mulHi (Int.toNat a1) (Int.toNat y)) : Nat) : Int) (addC (((mulLo (Int.toNat a1) (Int.toNat y)) : Nat) : Int) (((mulHi (Int.toNat a0) (Int.toNat y)) : Nat) : Int) (0 : Int))) (addC r1 (addS (((mulLo (Int.toNat a1) (Int.toNat y)) : Nat) : Int) (((mulHi (Int.toNat a0) (Int.toNat y)) : Nat) : Int) (0 : Int)) (addC r0 (((mulLo (Int.toNat a0) (Int.toNat y)) : Nat) : Int) (0 : Int))))), (.int .u64 (addS r3 (addS (((mulLo (Int.toNat a3) (Int.toNat y)) : Nat) : Int) (((mulHi (Int.toNat a2) (Int.toNat y)) : Nat) : Int) (addC (((mulLo (Int.toNat a2) (Int.toNat y)) : Nat) : Int) (((mulHi (Int.toNat a1) (Int.toNat y)) : Nat) : Int) (addC (((mulLo (Int.toNat a1) (Int.toNat y)) : Nat) : Int) (((mulHi (Int.toNat a0) (Int.toNat y)) : Nat) : Int) (0 : Int)))) (addC r2 (addS (((mulLo (Int.toNat a2) (Int.toNat y)) : Nat) : Int) (((mulHi (Int.toNat a1) (Int.toNat y)) : Nat) : Int) (addC (((mulLo (Int.toNat a1) (Int.toNat y)) : Nat) : Int) (((mulHi (Int.toNat a0) (Int.toNat y)) : Nat) : Int) (0 : Int))) (addC r1 (addS (((mulLo (Int.toNat a1) (Int.toNat y)) : Nat) : Int) (((mulHi (Int.toNat a0) (Int.toNat y)) : Nat) : Int) (0 : Int)) (addC r0 (((mulLo (Int.toNat a0) (Int.toNat y)) : Nat) : Int) (0 : Int)))))), (.int .u64 (IntKind.wrap .u64 ((IntKind.wrap .u64 ((((mulHi (Int.toNat a3) (Int.toNat y)) : Nat) : Int) + (addC (((mulLo (Int.toNat a3) (Int.toNat y)) : Nat) : Int) (((mulHi (Int.toNat a2) (Int.toNat y)) : Nat) : Int) (addC (((mulLo (Int.toNat a2) (Int.toNat y)) : Nat) : Int) (((mulHi (Int.toNat a1) (Int.toNat y)) : Nat) : Int) (addC (((mulLo (Int.toNat a1) (Int.toNat y)) : Nat) : Int) (((mulHi (Int.toNat a0) (Int.toNat y)) : Nat) : Int) (0 : Int)))))) + (addC r3 (addS (((mulLo (Int.toNat a3) (Int.toNat y)) : Nat) : Int) (((mulHi (Int.toNat a2) (Int.toNat y)) : Nat) : Int) (addC (((mulLo (Int.toNat a2) (Int.toNat y)) : Nat) : Int) (((mulHi (Int.toNat a1) (Int.toNat y)) : Nat) : Int) (addC (((mulLo (Int.toNat a1) (Int.toNat y)) : Nat) : Int) (((mulHi (Int.toNat a0) (Int.toNat y)) : Nat) : Int) (0 : Int)))) (addC r2 (addS (((mulLo (Int.toNat a2) (Int.toNat y)) : Nat) : Int) (((mulHi (Int.toNat a1) (Int.toNat y)) : Nat) : Int) (addC (((mulLo (Int.toNat a1) (Int.toNat y)) : Nat) : Int) (((mulHi (Int.toNat a0) (Int.toNat y)) : Nat) : Int) (0 : Int))) (addC r1 (addS (((mulLo (Int.toNat a1) (Int.toNat y)) : Nat) : Int) (((mulHi (Int.toNat a0) (Int.toNat y)) : Nat) : Int) (0 : Int)) (addC r0 (((mulLo (Int.toNat a0) (Int.toNat y)) : Nat) : Int) (0 : Int))))))))])))))))))))))))))))))))))
theorem row_tree (T : Nat) (a : BitVec 256) (y r0 r1 r2 r3 : Int) : (callT (fX1) (execT (fX1) 100) 84 [.ptr 0 [], .int .u64 y, .int .u64 r0, .int .u64 r1, .int .u64 r2, .int .u64 r3] [] (heapK [(T,.u a)]) 1 []).map CR.v = rowT (limb a 0) (limb a 1) (limb a 2) (limb a 3) y r0 r1 r2 r3 := by kernel_rfl
theorem rowi_tree (T : Nat) (a0 a1 a2 a3 y r0 r1 r2 r3 : Int) : (callT (fX1) (execT (fX1) 100) 84 [.ptr 0 [], .int .u64 y, .int .u64 r0, .int .u64 r1, .int .u64 r2, .int .u64 r3] [] (heapK [(T,.ints .u64 4 [a0, a1, a2, a3])]) 1 []).map CR.v = rowT a0 a1 a2 a3 y r0 r1 r2 r3 := by kernel_rfl
theorem mul_parts {x y : Nat} (hx : x < 18446744073709551616) (hy : y < 18446744073709551616) : ∃ h l, mulHi x y = h ∧ mulLo x y = l ∧ x * y = h * 18446744073709551616 + l ∧ l < 18446744073709551616 ∧ h ≤ 18446744073709551614 := by
  refine ⟨_, _, rfl, rfl, ?_, ?_, ?_⟩
  · unfold mulHi mulLo; omega
  · unfold mulLo; omega
  · unfold mulHi
    have : x * y ≤ 18446744073709551615 * 18446744073709551615 := Nat.mul_le_mul (by omega) (by omega)
    omega
/-- Five digits of a number. -/
def nat5 (a b c d e : Nat) : Nat := a + 18446744073709551616 * (b + 18446744073709551616 * (c + 18446744073709551616 * (d + 18446744073709551616 * e)))
def dg (V k : Nat) : Nat := V / 18446744073709551616 ^ k % 18446744073709551616
theorem dg_lt (V k : Nat) : dg V k < 18446744073709551616 := Nat.mod_lt _ (by decide)
theorem dg_of {V a b c d e : Nat} (ha : a < 18446744073709551616) (hb : b < 18446744073709551616) (hc : c < 18446744073709551616) (hd : d < 18446744073709551616) (he : e < 18446744073709551616) (h : V = nat5 a b c d e) :
    dg V 0 = a ∧ dg V 1 = b ∧ dg V 2 = c ∧ dg V 3 = d ∧ dg V 4 = e := by
  subst h
  unfold nat5 dg
  refine ⟨?_, ?_, ?_, ?_, ?_⟩ <;> simp only [Nat.reducePow] <;> omega
/-- What a row comes to. -/
def rowN (a y r : Nat) : Nat := r + a * y
def rowV (a y r : Nat) : AV := .tup [.int .u64 (dg (rowN a y r) 0), .int .u64 (dg (rowN a y r) 1), .int .u64 (dg (rowN a y r) 2), .int .u64 (dg (rowN a y r) 3), .int .u64 (dg (rowN a y r) 4)]
theorem row_mul (a0 a1 a2 a3 y : Nat) : nat4 a0 a1 a2 a3 * y = nat4 (a0 * y) (a1 * y) (a2 * y) (a3 * y) := by
  unfold nat4
  simp only [Nat.add_mul, Nat.mul_assoc]
theorem row_sum {r0 r1 r2 r3 s0 s1 s2 s3 h0 h1 h2 h3 l0 l1 l2 l3 m1 m2 m3 d1 d2 d3 e0 e1 e2 e3 : Nat}
    (k1 : l1 + h0 + 0 = m1 + 18446744073709551616 * d1) (k2 : l2 + h1 + d1 = m2 + 18446744073709551616 * d2) (k3 : l3 + h2 + d2 = m3 + 18446744073709551616 * d3)
    (g0 : r0 + l0 + 0 = s0 + 18446744073709551616 * e0) (g1 : r1 + m1 + e0 = s1 + 18446744073709551616 * e1) (g2 : r2 + m2 + e1 = s2 + 18446744073709551616 * e2) (g3 : r3 + m3 + e2 = s3 + 18446744073709551616 * e3) :
    nat4 r0 r1 r2 r3 + nat4 (h0 * 18446744073709551616 + l0) (h1 * 18446744073709551616 + l1) (h2 * 18446744073709551616 + l2) (h3 * 18446744073709551616 + l3) = nat5 s0 s1 s2 s3 (h3 + d3 + e3) := by
  unfold nat4 nat5; omega
theorem row_le {a y r : Nat} (ha : a < 2 ^ 256) (hy : y < 18446744073709551616) (hr : r < 2 ^ 256) : rowN a y r < 2 ^ 320 := by
  unfold rowN
  have : a * y ≤ (2 ^ 256 - 1) * 18446744073709551615 := Nat.mul_le_mul (by omega) (by omega)
  omega
theorem u64_add {m n : Nat} (h : m + n < 18446744073709551616) : IntKind.u64.wrap ((m : Int) + (n : Int)) = ((m + n : Nat) : Int) := wrap_add h
theorem SameR.ints5 (a b c d e : Int) : SameR (.tup [.int .u64 a, .int .u64 b, .int .u64 c, .int .u64 d, .int .u64 e]) (.tup [.int .u64 a, .int .u64 b, .int .u64 c, .int .u64 d, .int .u64 e]) := by
  intro ρ x hx
  simpa only [RV, RV1s, RV1, RC] using hx
end Go.Proofs.Ytglcjmnkhmdlhaa

/- The curve's numbers: a row of a product, its digits. -/
namespace Go.Proofs.Ytglcjmnkhmdlhaa
open Go Go.RowKit
theorem row_top {a y r s0 s1 s2 s3 s4 : Nat} (ha : a < 2 ^ 256) (hy : y < 18446744073709551616) (hr : r < 2 ^ 256) (hs : r + a * y = nat5 s0 s1 s2 s3 s4) : s4 < 18446744073709551616 := by
  have hl := row_le ha hy hr
  unfold rowN at hl
  rw [hs] at hl
  unfold nat5 at hl
  omega
theorem le_lt {h : Nat} (h1 : h ≤ 18446744073709551614) : h < 18446744073709551616 := by omega
theorem le_lt1 {h d : Nat} (h1 : h ≤ 18446744073709551614) (h2 : d ≤ 1) : h + d < 18446744073709551616 := by omega
theorem row_holds (a0 a1 a2 a3 y r0 r1 r2 r3 : Nat) (h0 : a0 < 18446744073709551616) (h1 : a1 < 18446744073709551616) (h2 : a2 < 18446744073709551616) (h3 : a3 < 18446744073709551616) (hy : y < 18446744073709551616)
    (i0 : r0 < 18446744073709551616) (i1 : r1 < 18446744073709551616) (i2 : r2 < 18446744073709551616) (i3 : r3 < 18446744073709551616) :
    (rowT a0 a1 a2 a3 y r0 r1 r2 r3).holds fun v => SameR v (rowV (nat4 a0 a1 a2 a3) y (nat4 r0 r1 r2 r3)) := by
  obtain ⟨H0, L0, hH0, hL0, hp0, bL0, bH0⟩ := mul_parts h0 hy
  obtain ⟨H1, L1, hH1, hL1, hp1, bL1, bH1⟩ := mul_parts h1 hy
  obtain ⟨H2, L2, hH2, hL2, hp2, bL2, bH2⟩ := mul_parts h2 hy
  obtain ⟨H3, L3, hH3, hL3, hp3, bL3, bH3⟩ := mul_parts h3 hy
  obtain ⟨m1, d1, p1, q1, n1, o1, k1⟩ := add_step L1 H0 0 bL1 (le_lt bH0) (Nat.zero_le 1)
  obtain ⟨m2, d2, p2, q2, n2, o2, k2⟩ := add_step L2 H1 d1 bL2 (le_lt bH1) o1
  obtain ⟨m3, d3, p3, q3, n3, o3, k3⟩ := add_step L3 H2 d2 bL3 (le_lt bH2) o2
  obtain ⟨s0, e0, P0, Q0, N0, O0, K0⟩ := add_step r0 L0 0 i0 bL0 (Nat.zero_le 1)
  obtain ⟨s1, e1, P1, Q1, N1, O1, K1⟩ := add_step r1 m1 e0 i1 n1 O0
  obtain ⟨s2, e2, P2, Q2, N2, O2, K2⟩ := add_step r2 m2 e1 i2 n2 O1
  obtain ⟨s3, e3, P3, Q3, N3, O3, K3⟩ := add_step r3 m3 e2 i3 n3 O2
  have q1 : addC (↑L1) (↑H0) 0 = d1 := q1
  have p1 : addS (↑L1) (↑H0) 0 = m1 := p1
  have Q0 : addC (↑r0) (↑L0) 0 = e0 := Q0
  have P0 : addS (↑r0) (↑L0) 0 = s0 := P0
  have hs := row_sum (h3 := H3) k1 k2 k3 K0 K1 K2 K3
  rw [← hp0, ← hp1, ← hp2, ← hp3, ← row_mul] at hs
  have hlt := row_top (nat4_lt h0 h1 h2 h3) hy (nat4_lt i0 i1 i2 i3) hs
  obtain ⟨w0, w1, w2, w3, w4⟩ := dg_of N0 N1 N2 N3 hlt hs
  have u1 := u64_add (m := H3) (n := d3) (le_lt1 bH3 o3)
  have u2 := u64_add (m := H3 + d3) (n := e3) hlt
  unfold rowT rowV rowN
  simp only [T.holds, Int.toNat_natCast, hH0, hL0, hH1, hL1, hH2, hL2, hH3, hL3, q1, p1, q2, p2, q3, p3, Q0, P0, Q1, P1, Q2, P2, Q3, P3, u1, u2, w0, w1, w2, w3, w4, true_and, Nat.ble_eq, o1, o2, o3, O0, O1, O2, inR_limb h0, inR_limb h1, inR_limb h2, inR_limb h3, inR_limb hy]
  exact SameR.ints5 _ _ _ _ _
theorem int_of_inR {x : Int} (h : inR x = true) : ∃ n : Nat, x = n ∧ n < 18446744073709551616 := by
  simp only [inR, Bool.and_eq_true, decide_eq_true_eq] at h
  obtain ⟨m, rfl⟩ := Int.eq_ofNat_of_zero_le h.1
  exact ⟨m, rfl, by omega⟩
noncomputable def c_row : Ctr Try.prog := Ctr.ofK 84 (fun args bs => match args, bs with
    | [.ptr 0 [], .int .u64 y, .int .u64 r0, .int .u64 r1, .int .u64 r2, .int .u64 r3], [(_, .u a)] => some ([inR y, inR r0, inR r1, inR r2, inR r3], rowV a.toNat y.toNat (nat4 r0.toNat r1.toNat r2.toNat r3.toNat))
    | [.ptr 0 [], .int .u64 y, .int .u64 r0, .int .u64 r1, .int .u64 r2, .int .u64 r3], [(_, .ints .u64 4 [a0, a1, a2, a3])] =>
      some ([inR y, inR r0, inR r1, inR r2, inR r3, inR a0, inR a1, inR a2, inR a3], rowV (nat4 a0.toNat a1.toNat a2.toNat a3.toNat) y.toNat (nat4 r0.toNat r1.toNat r2.toNat r3.toNat))
    | _, _ => none) (by
  intro args bs ob v h hob
  split at h <;> simp only [Option.some.injEq, Prod.mk.injEq, reduceCtorEq] at h
  · rename_i y r0 r1 r2 r3 T a
    obtain ⟨rfl, rfl⟩ := h
    obtain ⟨y, rfl, hy⟩ := int_of_inR (hob (inR y) (by simp))
    obtain ⟨r0, rfl, h0⟩ := int_of_inR (hob (inR r0) (by simp))
    obtain ⟨r1, rfl, h1⟩ := int_of_inR (hob (inR r1) (by simp))
    obtain ⟨r2, rfl, h2⟩ := int_of_inR (hob (inR r2) (by simp))
    obtain ⟨r3, rfl, h3⟩ := int_of_inR (hob (inR r3) (by simp))
    refine PureK.by_tree mixed fX1 100 _ _ _ 1 [] [] (row_tree T a _ _ _ _ _) ?_
    obtain ⟨a0, a1, a2, a3, i0, i1, i2, i3, l0, l1, l2, l3, ha⟩ := limbs_nat a
    rw [l0, l1, l2, l3, ha]
    exact row_holds a0 a1 a2 a3 y r0 r1 r2 r3 i0 i1 i2 i3 hy h0 h1 h2 h3
  · rename_i y r0 r1 r2 r3 T a0 a1 a2 a3
    obtain ⟨rfl, rfl⟩ := h
    obtain ⟨y, rfl, hy⟩ := int_of_inR (hob (inR y) (by simp))
    obtain ⟨r0, rfl, h0⟩ := int_of_inR (hob (inR r0) (by simp))
    obtain ⟨r1, rfl, h1⟩ := int_of_inR (hob (inR r1) (by simp))
    obtain ⟨r2, rfl, h2⟩ := int_of_inR (hob (inR r2) (by simp))
    obtain ⟨r3, rfl, h3⟩ := int_of_inR (hob (inR r3) (by simp))
    obtain ⟨a0, rfl, i0⟩ := int_of_inR (hob (inR a0) (by simp))
    obtain ⟨a1, rfl, i1⟩ := int_of_inR (hob (inR a1) (by simp))
    obtain ⟨a2, rfl, i2⟩ := int_of_inR (hob (inR a2) (by simp))
    obtain ⟨a3, rfl, i3⟩ := int_of_inR (hob (inR a3) (by simp))
    refine PureK.by_tree mixed fX1 100 _ _ _ 1 [] [] (rowi_tree T _ _ _ _ _ _ _ _ _) ?_
    exact row_holds a0 a1 a2 a3 y r0 r1 r2 r3 i0 i1 i2 i3 hy h0 h1 h2 h3)
end Go.Proofs.Ytglcjmnkhmdlhaa

/- Contracts: the curve's numbers: sums and differences by its prime. -/
namespace Go.Proofs.Ytglcjmnkhmdlhaa
open Go Go.RowKit
def SM : BitVec 256 := BitVec.ofNat 256 4294968273
theorem SM0 : limb SM 0 = 4294968273 := by kernel_rfl
theorem SM1 : limb SM 1 = 0 := by kernel_rfl
theorem SM2 : limb SM 2 = 0 := by kernel_rfl
theorem SM3 : limb SM 3 = 0 := by kernel_rfl
theorem bring_tree (a b : BitVec 256) : (callT (fX1) (execT (fX1) 100) 86 [.u a, .u b] [] [] 0 []).map CR.v =
    (.need true
    (.need (Nat.ble (Int.toNat (addC (limb a 0) (limb b 0) (0 : Int))) 1)
    (.need (Nat.ble (Int.toNat (addC (limb a 1) (limb b 1) (addC (limb a 0) (limb b 0) (0 : Int)))) 1)
    (.need (Nat.ble (Int.toNat (addC (limb a 2) (limb b 2) (addC (limb a 1) (limb b 1) (addC (limb a 0) (limb b 0) (0 : Int))))) 1)
    (.leaf (.tup [(.ints .u64 4 [(addS (limb a 0) (limb b 0) (0 : Int)), (addS (limb a 1) (limb b 1) (addC (limb a 0) (limb b 0) (0 : Int))), (addS (limb a 2) (limb b 2) (addC (limb a 1) (limb b 1) (addC (limb a 0) (limb b 0) (0 : Int)))), (addS (limb a 3) (limb b 3) (addC (limb a 2) (limb b 2) (addC (limb a 1) (limb b 1) (addC (limb a 0) (limb b 0) (0 : Int)))))]), (.int .u64 (addC (limb a 3) (limb b 3) (addC (limb a 2) (limb b 2) (addC (limb a 1) (limb b 1) (addC (limb a 0) (limb b 0) (0 : Int))))))])))))) := by kernel_rfl
def carryI (a b : BitVec 256) : Int := if uover a b = true then 1 else 0
def bringV (a b : BitVec 256) : AV := .tup [.u (a + b), .int .u64 (carryI a b)]
theorem bring_ok (a b : BitVec 256) : Pure Try.prog 86 [.u a, .u b] (bringV a b) := by
  obtain ⟨h1, h2, h3, h4, h5⟩ := add_plain a b
  refine Pure.by_tree mixed fX1 100 _ _ (bring_tree a b) ⟨rfl, Nat.ble_eq_true_of_le h1, Nat.ble_eq_true_of_le h2, Nat.ble_eq_true_of_le h3, ?_⟩
  exact SameR.tup2 (SameV.u4 h4) (SameV.int h5)
noncomputable def c_bring : Ctr Try.prog := Ctr.u2 86 bringV bring_ok
theorem cut_tree (a : BitVec 256) (c : Int) : (callT (fX1) (execT (fX1) 100) 85 [.u a, .int .u64 c] [] [] 0 []).map CR.v =
    (.need true
    (.need (Nat.ble (Int.toNat (addC (limb a 0) (4294968273 : Int) (0 : Int))) 1)
    (.need (Nat.ble (Int.toNat (addC (limb a 1) (0 : Int) (addC (limb a 0) (4294968273 : Int) (0 : Int)))) 1)
    (.need (Nat.ble (Int.toNat (addC (limb a 2) (0 : Int) (addC (limb a 1) (0 : Int) (addC (limb a 0) (4294968273 : Int) (0 : Int))))) 1)
    (.ite ((ior .u64 c (addC (limb a 3) (0 : Int) (addC (limb a 2) (0 : Int) (addC (limb a 1) (0 : Int) (addC (limb a 0) (4294968273 : Int) (0 : Int)))))) == (0 : Int))
     (.leaf (.u a))
     (.leaf (.ints .u64 4 [(addS (limb a 0) (4294968273 : Int) (0 : Int)), (addS (limb a 1) (0 : Int) (addC (limb a 0) (4294968273 : Int) (0 : Int))), (addS (limb a 2) (0 : Int) (addC (limb a 1) (0 : Int) (addC (limb a 0) (4294968273 : Int) (0 : Int)))), (addS (limb a 3) (0 : Int) (addC (limb a 2) (0 : Int) (addC (limb a 1) (0 : Int) (addC (limb a 0) (4294968273 : Int) (0 : Int)))))]))))))) := by kernel_rfl
def cutV (a : BitVec 256) (c : Int) : BitVec 256 := if (c == 0 && !uover a SM) = true then a else a + SM
theorem ior00 : ior .u64 0 0 = 0 := by kernel_rfl
theorem ior01 : ior .u64 0 1 = 1 := by kernel_rfl
theorem ior10 : ior .u64 1 0 = 1 := by kernel_rfl
theorem ior11 : ior .u64 1 1 = 1 := by kernel_rfl
theorem ior_bits (c : Int) (o : Bool) (hc : c = 0 ∨ c = 1) : (ior .u64 c (if o = true then 1 else 0) == 0) = (c == 0 && !o) := by
  rcases hc with rfl | rfl <;> cases o <;> simp [ior00, ior01, ior10, ior11]
theorem cut_ok (a : BitVec 256) (c : Int) (hc : c = 0 ∨ c = 1) : Pure Try.prog 85 [.u a, .int .u64 c] (.u (cutV a c)) := by
  obtain ⟨h1, h2, h3, h4, h5⟩ := add_plain a SM
  simp only [ac1, ac2, ac3, ac4, addL, SM0, SM1, SM2, SM3] at h1 h2 h3 h4 h5
  refine Pure.by_tree mixed fX1 100 _ _ (cut_tree a c) ⟨rfl, Nat.ble_eq_true_of_le h1, Nat.ble_eq_true_of_le h2, Nat.ble_eq_true_of_le h3, ?_⟩
  rw [h5, ior_bits c _ hc]
  refine ⟨fun h => ?_, fun h => ?_⟩
  · unfold cutV; rw [if_pos h]; exact (SameV.u rfl).r
  · unfold cutV; rw [if_neg (by rw [h]; decide)]
    exact (SameV.u4 h4).r
noncomputable def c_cut : Ctr Try.prog := Ctr.of 85 (fun | [.u a, .int .u64 c] => some ([c == 0 || c == 1], .u (cutV a c)) | _ => none) (by
  intro args ob v h hob
  split at h <;> simp only [Option.some.injEq, Prod.mk.injEq, reduceCtorEq] at h
  obtain ⟨rfl, rfl⟩ := h
  rename_i a c
  have := hob (c == 0 || c == 1) (by simp)
  exact cut_ok a c (by simpa using this))
theorem cvminus_tree (a b : BitVec 256) : (callT (fX1) (execT (fX1) 100) 73 [.u a, .u b] [] [] 0 []).map CR.v =
    (.need true
    (.need (Nat.ble (Int.toNat (subB (limb a 0) (limb b 0) (0 : Int))) 1)
    (.need (Nat.ble (Int.toNat (subB (limb a 1) (limb b 1) (subB (limb a 0) (limb b 0) (0 : Int)))) 1)
    (.need (Nat.ble (Int.toNat (subB (limb a 2) (limb b 2) (subB (limb a 1) (limb b 1) (subB (limb a 0) (limb b 0) (0 : Int))))) 1)
    (.ite ((subB (limb a 3) (limb b 3) (subB (limb a 2) (limb b 2) (subB (limb a 1) (limb b 1) (subB (limb a 0) (limb b 0) (0 : Int))))) == (0 : Int))
     (.leaf (.ints .u64 4 [(subS (limb a 0) (limb b 0) (0 : Int)), (subS (limb a 1) (limb b 1) (subB (limb a 0) (limb b 0) (0 : Int))), (subS (limb a 2) (limb b 2) (subB (limb a 1) (limb b 1) (subB (limb a 0) (limb b 0) (0 : Int)))), (subS (limb a 3) (limb b 3) (subB (limb a 2) (limb b 2) (subB (limb a 1) (limb b 1) (subB (limb a 0) (limb b 0) (0 : Int)))))]))
     (.need true
     (.need (Nat.ble (Int.toNat (subB (subS (limb a 0) (limb b 0) (0 : Int)) (4294968273 : Int) (0 : Int))) 1)
     (.need (Nat.ble (Int.toNat (subB (subS (limb a 1) (limb b 1) (subB (limb a 0) (limb b 0) (0 : Int))) (0 : Int) (subB (subS (limb a 0) (limb b 0) (0 : Int)) (4294968273 : Int) (0 : Int)))) 1)
     (.need (Nat.ble (Int.toNat (subB (subS (limb a 2) (limb b 2) (subB (limb a 1) (limb b 1) (subB (limb a 0) (limb b 0) (0 : Int)))) (0 : Int) (subB (subS (limb a 1) (limb b 1) (subB (limb a 0) (limb b 0) (0 : Int))) (0 : Int) (subB (subS (limb a 0) (limb b 0) (0 : Int)) (4294968273 : Int) (0 : Int))))) 1)
     (.leaf (.ints .u64 4 [(subS (subS (limb a 0) (limb b 0) (0 : Int)) (4294968273 : Int) (0 : Int)), (subS (subS (limb a 1) (limb b 1) (subB (limb a 0) (limb b 0) (0 : Int))) (0 : Int) (subB (subS (limb a 0) (limb b 0) (0 : Int)) (4294968273 : Int) (0 : Int))), (subS (subS (limb a 2) (limb b 2) (subB (limb a 1) (limb b 1) (subB (limb a 0) (limb b 0) (0 : Int)))) (0 : Int) (subB (subS (limb a 1) (limb b 1) (subB (limb a 0) (limb b 0) (0 : Int))) (0 : Int) (subB (subS (limb a 0) (limb b 0) (0 : Int)) (4294968273 : Int) (0 : Int)))), (subS (subS (limb a 3) (limb b 3) (subB (limb a 2) (limb b 2) (subB (limb a 1) (limb b 1) (subB (limb a 0) (limb b 0) (0 : Int))))) (0 : Int) (subB (subS (limb a 2) (limb b 2) (subB (limb a 1) (limb b 1) (subB (limb a 0) (limb b 0) (0 : Int)))) (0 : Int) (subB (subS (limb a 1) (limb b 1) (subB (limb a 0) (limb b 0) (0 : Int))) (0 : Int) (subB (subS (limb a 0) (limb b 0) (0 : Int)) (4294968273 : Int) (0 : Int)))))]))))))))))) := by kernel_rfl
def minusV (a b : BitVec 256) : BitVec 256 := if uless a b = true then a - b - SM else a - b
theorem list4 {a b c d a' b' c' d' : Int} (h : [a, b, c, d] = [a', b', c', d']) : a = a' ∧ b = b' ∧ c = c' ∧ d = d' := by
  simp at h; exact h
theorem cvminus_ok (a b : BitVec 256) : Pure Try.prog 73 [.u a, .u b] (.u (minusV a b)) := by
  obtain ⟨h1, h2, h3, h4, h5⟩ := sub_plain a b
  obtain ⟨g1, g2, g3, g4, g5⟩ := sub_plain (a - b) SM
  refine Pure.by_tree mixed fX1 100 _ _ (cvminus_tree a b) ⟨rfl, Nat.ble_eq_true_of_le h1, Nat.ble_eq_true_of_le h2, Nat.ble_eq_true_of_le h3, ?_⟩
  simp only [sb1, sb2, sb3, sb4, subL, SM0, SM1, SM2, SM3] at g1 g2 g3 g4 g5 h1 h2 h3 h4 h5
  obtain ⟨e0, e1, e2, e3⟩ := list4 h4
  rw [h5, e0, e1, e2, e3]
  refine ⟨fun h => ?_, fun h => ⟨rfl, Nat.ble_eq_true_of_le g1, Nat.ble_eq_true_of_le g2, Nat.ble_eq_true_of_le g3, ?_⟩⟩
  · unfold minusV
    rw [if_neg (by intro h'; rw [h'] at h; simp at h)]
    exact (SameV.u4 rfl).r
  · unfold minusV
    rw [if_pos (by cases hh : uless a b <;> simp [hh] at h ⊢)]
    exact (SameV.u4 g4).r
noncomputable def c_minus : Ctr Try.prog := Ctr.u2 73 (fun a b => .u (minusV a b)) cvminus_ok
noncomputable def fX2 : EnvT Try.prog := { cs := [c_mul64, c_num_Of, c_row, c_bring, c_cut, c_minus], fis := [fi_curve_plus, fi_curve_times] }
end Go.Proofs.Ytglcjmnkhmdlhaa

/- Contracts: the curve's numbers: products by its prime. -/
namespace Go.Proofs.Ytglcjmnkhmdlhaa
open Go Go.RowKit
/-- Numbers by the prime. -/
abbrev FP := Fin pP
def uF (x : FP) : BitVec 256 := BitVec.ofNat 256 x.val
def fU (a : BitVec 256) : FP := Fin.ofNat pP a.toNat
def ltP (a : BitVec 256) : Bool := decide (a.toNat < pP)
theorem uF_nat (x : FP) : (uF x).toNat = x.val := by
  have h := x.isLt
  unfold uF
  rw [BitVec.toNat_ofNat, Nat.mod_eq_of_lt]
  unfold pP at h; omega
theorem fU_uF (x : FP) : fU (uF x) = x := by
  apply Fin.ext
  unfold fU
  simp only [Fin.ofNat, uF_nat]
  exact Nat.mod_eq_of_lt x.isLt
theorem ltP_uF (x : FP) : ltP (uF x) = true := by
  simp only [ltP, decide_eq_true_eq, uF_nat]; exact x.isLt
theorem uF_inj {x y : FP} (h : uF x = uF y) : x = y := by rw [← fU_uF x, h, fU_uF]
theorem uF_fU {a : BitVec 256} (h : ltP a = true) : uF (fU a) = a := by
  simp only [ltP, decide_eq_true_eq] at h
  apply BitVec.eq_of_toNat_eq
  rw [uF_nat]
  simp only [fU, Fin.ofNat]
  exact Nat.mod_eq_of_lt h
theorem fU_val (a : BitVec 256) : (fU a).val = a.toNat % pP := rfl
theorem SM_nat : SM.toNat = 4294968273 := by kernel_rfl
theorem cut_nat1 {V : Nat} (h : V < 2 * pP) (hc : 2 ^ 256 ≤ V) : (V % 2 ^ 256 + 4294968273) % 2 ^ 256 = V % pP := by unfold pP at h ⊢; omega
theorem cut_nat2 {V : Nat} (h : V < 2 * pP) (hc : ¬ 2 ^ 256 ≤ V) (hd : 2 ^ 256 ≤ V % 2 ^ 256 + 4294968273) : (V % 2 ^ 256 + 4294968273) % 2 ^ 256 = V % pP := by unfold pP at h ⊢; omega
theorem cut_nat3 {V : Nat} (hc : ¬ 2 ^ 256 ≤ V) (hd : ¬ 2 ^ 256 ≤ V % 2 ^ 256 + 4294968273) : V % 2 ^ 256 = V % pP := by unfold pP; omega
theorem uover_iff (a b : BitVec 256) : uover a b = true ↔ 2 ^ 256 ≤ a.toNat + b.toNat := by unfold uover; exact decide_eq_true_iff
theorem uless_iff (a b : BitVec 256) : uless a b = true ↔ a.toNat < b.toNat := by unfold uless; exact decide_eq_true_iff
/-- A number below twice the prime, cut. -/
theorem cut_val {L H : BitVec 256} (h : L.toNat + H.toNat < 2 * pP) : (cutV (L + H) (carryI L H)).toNat = (L.toNat + H.toNat) % pP := by
  have hs : (L + H).toNat = (L.toNat + H.toNat) % 2 ^ 256 := BitVec.toNat_add L H
  have ht : (L + H + SM).toNat = ((L.toNat + H.toNat) % 2 ^ 256 + 4294968273) % 2 ^ 256 := by rw [BitVec.toNat_add, hs, SM_nat]
  have hu := uover_iff (L + H) SM
  rw [hs, SM_nat] at hu
  have hv := uover_iff L H
  unfold cutV carryI
  cases ho : uover L H with
  | true =>
    have hc := hv.mp ho
    rw [if_neg (by simp), ht]
    exact cut_nat1 h hc
  | false =>
    have hc : ¬ 2 ^ 256 ≤ L.toNat + H.toNat := fun h' => by rw [hv.mpr h'] at ho; exact absurd ho (by decide)
    cases hq : uover (L + H) SM with
    | true =>
      rw [if_neg (by simp), ht]
      exact cut_nat2 h hc (hu.mp hq)
    | false =>
      rw [if_pos (by simp), hs]
      exact cut_nat3 hc fun h' => by rw [hu.mpr h'] at hq; exact absurd hq (by decide)
theorem minus_nat1 {a b : Nat} (ha : a < pP) (hb : b < pP) (h : a < b) : (2 ^ 256 - 4294968273 + (2 ^ 256 - b + a) % 2 ^ 256) % 2 ^ 256 = (pP - b + a) % pP := by unfold pP at *; omega
theorem minus_nat2 {a b : Nat} (ha : a < pP) (hb : b < pP) (h : ¬ a < b) : (2 ^ 256 - b + a) % 2 ^ 256 = (pP - b + a) % pP := by unfold pP at *; omega
theorem minus_val {a b : BitVec 256} (ha : a.toNat < pP) (hb : b.toNat < pP) : (minusV a b).toNat = (pP - b.toNat + a.toNat) % pP := by
  have hs : (a - b).toNat = (2 ^ 256 - b.toNat + a.toNat) % 2 ^ 256 := BitVec.toNat_sub a b
  have ht : (a - b - SM).toNat = (2 ^ 256 - 4294968273 + (2 ^ 256 - b.toNat + a.toNat) % 2 ^ 256) % 2 ^ 256 := by rw [BitVec.toNat_sub, hs, SM_nat]
  have hv := uless_iff a b
  unfold minusV
  cases ho : uless a b with
  | true => rw [if_pos rfl, ht]; exact minus_nat1 ha hb (hv.mp ho)
  | false =>
    rw [if_neg (by simp), hs]
    exact minus_nat2 ha hb fun h' => by rw [hv.mpr h'] at ho; exact absurd ho (by decide)
theorem plus_tree (a b : BitVec 256) : (callT (fX2) (execT (fX2) 100) 72 [.u a, .u b] [] [] 0 []).map CR.v =
    (.need (((carryI a b) == (0 : Int)) || ((carryI a b) == (1 : Int)))
    (.leaf (.u (cutV (a + b) (carryI a b))))) := by kernel_rfl
theorem carry_bit (a b : BitVec 256) : (carryI a b == 0 || carryI a b == 1) = true := by
  unfold carryI; split <;> rfl
theorem plus_ok (a b : BitVec 256) (ha : ltP a = true) (hb : ltP b = true) : Pure Try.prog 72 [.u a, .u b] (.u (uF (fU a + fU b))) := by
  simp only [ltP, decide_eq_true_eq] at ha hb
  refine Pure.by_tree mixed fX2 100 _ _ (plus_tree a b) ⟨carry_bit a b, ?_⟩
  refine (SameV.u ?_).r
  apply BitVec.eq_of_toNat_eq
  rw [cut_val (by omega), uF_nat, Fin.val_add, fU_val, fU_val, Nat.mod_eq_of_lt ha, Nat.mod_eq_of_lt hb]
noncomputable def c_plus : Ctr Try.prog := Ctr.of 72 (fun | [.u a, .u b] => some ([ltP a, ltP b], .u (uF (fU a + fU b))) | _ => none) (by
  intro args ob v h hob
  split at h <;> simp only [Option.some.injEq, Prod.mk.injEq, reduceCtorEq] at h
  obtain ⟨rfl, rfl⟩ := h
  rename_i a b
  exact plus_ok a b (hob (ltP a) (by simp)) (hob (ltP b) (by simp)))
theorem cvminus_okF (a b : BitVec 256) (ha : ltP a = true) (hb : ltP b = true) : Pure Try.prog 73 [.u a, .u b] (.u (uF (fU a - fU b))) := by
  simp only [ltP, decide_eq_true_eq] at ha hb
  have : minusV a b = uF (fU a - fU b) := by
    apply BitVec.eq_of_toNat_eq
    rw [minus_val ha hb, uF_nat, Fin.sub_def]
    simp only [fU_val, Nat.mod_eq_of_lt ha, Nat.mod_eq_of_lt hb]
  rw [← this]; exact cvminus_ok a b
noncomputable def c_minusF : Ctr Try.prog := Ctr.of 73 (fun | [.u a, .u b] => some ([ltP a, ltP b], .u (uF (fU a - fU b))) | _ => none) (by
  intro args ob v h hob
  split at h <;> simp only [Option.some.injEq, Prod.mk.injEq, reduceCtorEq] at h
  obtain ⟨rfl, rfl⟩ := h
  rename_i a b
  exact cvminus_okF a b (hob (ltP a) (by simp)) (hob (ltP b) (by simp)))
end Go.Proofs.Ytglcjmnkhmdlhaa

/- Contracts: the curve's numbers: products by its prime. -/
namespace Go.Proofs.Ytglcjmnkhmdlhaa
open Go Go.RowKit
def tV0 (a b : BitVec 256) : Nat := rowN (BitVec.toNat a) (Int.toNat (limb b 0)) (nat4 0 0 0 0)
def tV1 (a b : BitVec 256) : Nat := rowN (BitVec.toNat a) (Int.toNat (limb b 1)) (nat4 (Int.toNat (((dg (tV0 a b) 1) : Nat) : Int)) (Int.toNat (((dg (tV0 a b) 2) : Nat) : Int)) (Int.toNat (((dg (tV0 a b) 3) : Nat) : Int)) (Int.toNat (((dg (tV0 a b) 4) : Nat) : Int)))
def tV2 (a b : BitVec 256) : Nat := rowN (BitVec.toNat a) (Int.toNat (limb b 2)) (nat4 (Int.toNat (((dg (tV1 a b) 1) : Nat) : Int)) (Int.toNat (((dg (tV1 a b) 2) : Nat) : Int)) (Int.toNat (((dg (tV1 a b) 3) : Nat) : Int)) (Int.toNat (((dg (tV1 a b) 4) : Nat) : Int)))
def tV3 (a b : BitVec 256) : Nat := rowN (BitVec.toNat a) (Int.toNat (limb b 3)) (nat4 (Int.toNat (((dg (tV2 a b) 1) : Nat) : Int)) (Int.toNat (((dg (tV2 a b) 2) : Nat) : Int)) (Int.toNat (((dg (tV2 a b) 3) : Nat) : Int)) (Int.toNat (((dg (tV2 a b) 4) : Nat) : Int)))
def tV4 (a b : BitVec 256) : Nat := rowN (BitVec.toNat (ofLimbs (((dg (tV3 a b) 1) : Nat) : Int) (((dg (tV3 a b) 2) : Nat) : Int) (((dg (tV3 a b) 3) : Nat) : Int) (((dg (tV3 a b) 4) : Nat) : Int))) 4294968273 (nat4 (Int.toNat (((dg (tV0 a b) 0) : Nat) : Int)) (Int.toNat (((dg (tV1 a b) 0) : Nat) : Int)) (Int.toNat (((dg (tV2 a b) 0) : Nat) : Int)) (Int.toNat (((dg (tV3 a b) 0) : Nat) : Int)))

def tL (a b : BitVec 256) : BitVec 256 := ofLimbs (((dg (tV4 a b) 0) : Nat) : Int) (((dg (tV4 a b) 1) : Nat) : Int) (((dg (tV4 a b) 2) : Nat) : Int) (((dg (tV4 a b) 3) : Nat) : Int)
def tH (a b : BitVec 256) : BitVec 256 := ofLimbs (((mulLo (Int.toNat (((dg (tV4 a b) 4) : Nat) : Int)) 4294968273) : Nat) : Int) (((mulHi (Int.toNat (((dg (tV4 a b) 4) : Nat) : Int)) 4294968273) : Nat) : Int) (0 : Int) (0 : Int)
theorem times_tree (a b : BitVec 256) : (callT (fX2) (execT (fX2) 100) 70 [.u a, .u b] [] [] 0 []).map CR.v =
    (.need (inR (limb b 0))
    (.need (inR (0 : Int))
    (.need (inR (0 : Int))
    (.need (inR (0 : Int))
    (.need (inR (0 : Int))
    (.need (inR (limb b 1))
    (.need (inR (((dg (tV0 a b) 1) : Nat) : Int))
    (.need (inR (((dg (tV0 a b) 2) : Nat) : Int))
    (.need (inR (((dg (tV0 a b) 3) : Nat) : Int))
    (.need (inR (((dg (tV0 a b) 4) : Nat) : Int))
    (.need (inR (limb b 2))
    (.need (inR (((dg (tV1 a b) 1) : Nat) : Int))
    (.need (inR (((dg (tV1 a b) 2) : Nat) : Int))
    (.need (inR (((dg (tV1 a b) 3) : Nat) : Int))
    (.need (inR (((dg (tV1 a b) 4) : Nat) : Int))
    (.need (inR (limb b 3))
    (.need (inR (((dg (tV2 a b) 1) : Nat) : Int))
    (.need (inR (((dg (tV2 a b) 2) : Nat) : Int))
    (.need (inR (((dg (tV2 a b) 3) : Nat) : Int))
    (.need (inR (((dg (tV2 a b) 4) : Nat) : Int))
    (.need ((((inR (((dg (tV3 a b) 1) : Nat) : Int)) && (inR (((dg (tV3 a b) 2) : Nat) : Int))) && (inR (((dg (tV3 a b) 3) : Nat) : Int))) && (inR (((dg (tV3 a b) 4) : Nat) : Int)))
    (.need (inR (4294968273 : Int))
    (.need (inR (((dg (tV0 a b) 0) : Nat) : Int))
    (.need (inR (((dg (tV1 a b) 0) : Nat) : Int))
    (.need (inR (((dg (tV2 a b) 0) : Nat) : Int))
    (.need (inR (((dg (tV3 a b) 0) : Nat) : Int))
    (.need (inR (((dg (tV4 a b) 4) : Nat) : Int))
    (.need (inR (4294968273 : Int))
    (.need ((((inR (((dg (tV4 a b) 0) : Nat) : Int)) && (inR (((dg (tV4 a b) 1) : Nat) : Int))) && (inR (((dg (tV4 a b) 2) : Nat) : Int))) && (inR (((dg (tV4 a b) 3) : Nat) : Int)))
    (.need ((((inR (((mulLo (Int.toNat (((dg (tV4 a b) 4) : Nat) : Int)) 4294968273) : Nat) : Int)) && (inR (((mulHi (Int.toNat (((dg (tV4 a b) 4) : Nat) : Int)) 4294968273) : Nat) : Int))) && (inR (0 : Int))) && (inR (0 : Int)))
    (.need (((carryI (tL a b) (tH a b)) == (0 : Int)) || ((carryI (tL a b) (tH a b)) == (1 : Int)))
    (.leaf (.u (cutV ((tL a b) + (tH a b)) (carryI (tL a b) (tH a b)))))))))))))))))))))))))))))))))))) := by kernel_rfl
theorem nat4_dg {V : Nat} (h : V < 2 ^ 320) : nat4 (dg V 1) (dg V 2) (dg V 3) (dg V 4) = V / 18446744073709551616 := by
  unfold nat4 dg; simp only [Nat.reducePow]; omega
theorem nat4_low {V : Nat} : nat4 (dg V 0) (dg V 1) (dg V 2) (dg V 3) = V % 2 ^ 256 := by
  unfold nat4 dg; simp only [Nat.reducePow]; omega
theorem ofLimbs_nat {a b c d : Nat} (ha : a < 18446744073709551616) (hb : b < 18446744073709551616) (hc : c < 18446744073709551616) (hd : d < 18446744073709551616) : (ofLimbs a b c d).toNat = nat4 a b c d := by
  unfold ofLimbs
  rw [BitVec.toNat_ofNat]
  simp only [Int.toNat_natCast]
  exact Nat.mod_eq_of_lt (nat4_lt ha hb hc hd)
theorem ofLimbs_nat0 {a b : Nat} (ha : a < 18446744073709551616) (hb : b < 18446744073709551616) : (ofLimbs a b 0 0).toNat = nat4 a b 0 0 := ofLimbs_nat (c := 0) (d := 0) ha hb (by decide) (by decide)
theorem toNat_cc (n : Nat) : Int.toNat (n : Int) = n := by cases n <;> rfl
/-- Rows, one on the other. -/
theorem rows_sum {n b0 b1 b2 b3 V0 V1 V2 V3 : Nat} (e0 : V0 = n * b0) (e1 : V1 = V0 / 18446744073709551616 + n * b1) (e2 : V2 = V1 / 18446744073709551616 + n * b2) (e3 : V3 = V2 / 18446744073709551616 + n * b3) :
    n * nat4 b0 b1 b2 b3 = nat4 (V0 % 18446744073709551616) (V1 % 18446744073709551616) (V2 % 18446744073709551616) (V3 % 18446744073709551616) + 2 ^ 256 * (V3 / 18446744073709551616) := by
  have : n * nat4 b0 b1 b2 b3 = nat4 (n * b0) (n * b1) (n * b2) (n * b3) := by
    rw [Nat.mul_comm, row_mul]; simp only [Nat.mul_comm]
  rw [this, ← e0]
  generalize n * b1 = x1 at *
  generalize n * b2 = x2 at *
  generalize n * b3 = x3 at *
  clear e0 this
  unfold nat4
  omega
theorem fold_mod {low high : Nat} : (low + high * 4294968273) % pP = (low + 2 ^ 256 * high) % pP := by
  have h1 : low + 2 ^ 256 * high = low + high * 4294968273 + pP * high := by unfold pP; omega
  rw [h1, Nat.add_mul_mod_self_left]
theorem dg0 (V : Nat) : dg V 0 = V % 18446744073709551616 := by unfold dg; simp
theorem rowN_eq (n y r : Nat) : rowN n y r = r + n * y := rfl
theorem times_nat (a b : BitVec 256) : tV0 a b < 2 ^ 320 ∧ tV1 a b < 2 ^ 320 ∧ tV2 a b < 2 ^ 320 ∧ tV3 a b < 2 ^ 320 ∧ tV4 a b % pP = (a.toNat * b.toNat) % pP ∧ tV4 a b ≤ 2 ^ 256 * 4294968273 + 2 ^ 256 := by
  obtain ⟨b0, b1, b2, b3, i0, i1, i2, i3, l0, l1, l2, l3, hb⟩ := limbs_nat b
  have hb : b.toNat = nat4 b0 b1 b2 b3 := hb
  have ha := a.isLt
  have z4 : nat4 0 0 0 0 = 0 := rfl
  have k0 : tV0 a b < 2 ^ 320 := by
    unfold tV0; rw [l0, Int.toNat_natCast]; exact row_le ha i0 (by rw [z4]; omega)
  have k1 : tV1 a b < 2 ^ 320 := by
    unfold tV1; rw [l1]; simp only [Int.toNat_natCast]; exact row_le ha i1 (nat4_lt (dg_lt _ _) (dg_lt _ _) (dg_lt _ _) (dg_lt _ _))
  have k2 : tV2 a b < 2 ^ 320 := by
    unfold tV2; rw [l2]; simp only [Int.toNat_natCast]; exact row_le ha i2 (nat4_lt (dg_lt _ _) (dg_lt _ _) (dg_lt _ _) (dg_lt _ _))
  have k3 : tV3 a b < 2 ^ 320 := by
    unfold tV3; rw [l3]; simp only [Int.toNat_natCast]; exact row_le ha i3 (nat4_lt (dg_lt _ _) (dg_lt _ _) (dg_lt _ _) (dg_lt _ _))
  have e0 : tV0 a b = a.toNat * b0 := by
    unfold tV0; rw [l0, Int.toNat_natCast, rowN_eq, z4, Nat.zero_add]
  have e1 : tV1 a b = tV0 a b / 18446744073709551616 + a.toNat * b1 := by
    conv => lhs; unfold tV1
    rw [l1]; simp only [Int.toNat_natCast]; rw [nat4_dg k0, rowN_eq]
  have e2 : tV2 a b = tV1 a b / 18446744073709551616 + a.toNat * b2 := by
    conv => lhs; unfold tV2
    rw [l2]; simp only [Int.toNat_natCast]; rw [nat4_dg k1, rowN_eq]
  have e3 : tV3 a b = tV2 a b / 18446744073709551616 + a.toNat * b3 := by
    conv => lhs; unfold tV3
    rw [l3]; simp only [Int.toNat_natCast]; rw [nat4_dg k2, rowN_eq]
  have hs := rows_sum e0 e1 e2 e3
  rw [← hb] at hs
  have e4 : tV4 a b = nat4 (tV0 a b % 18446744073709551616) (tV1 a b % 18446744073709551616) (tV2 a b % 18446744073709551616) (tV3 a b % 18446744073709551616) + tV3 a b / 18446744073709551616 * 4294968273 := by
    unfold tV4
    rw [ofLimbs_nat (dg_lt _ _) (dg_lt _ _) (dg_lt _ _) (dg_lt _ _), nat4_dg k3]
    simp only [Int.toNat_natCast, dg0, rowN_eq]
  refine ⟨k0, k1, k2, k3, ?_, ?_⟩
  · rw [e4, fold_mod, ← hs]
  · have hl : nat4 (tV0 a b % 18446744073709551616) (tV1 a b % 18446744073709551616) (tV2 a b % 18446744073709551616) (tV3 a b % 18446744073709551616) < 2 ^ 256 :=
      nat4_lt (Nat.mod_lt _ (by decide)) (Nat.mod_lt _ (by decide)) (Nat.mod_lt _ (by decide)) (Nat.mod_lt _ (by decide))
    rw [e4]
    generalize nat4 (tV0 a b % 18446744073709551616) (tV1 a b % 18446744073709551616) (tV2 a b % 18446744073709551616) (tV3 a b % 18446744073709551616) = lo at hl ⊢
    clear hs e0 e1 e2 e3 e4
    omega
theorem tL_nat (a b : BitVec 256) : (tL a b).toNat = tV4 a b % 2 ^ 256 := by
  unfold tL
  rw [ofLimbs_nat (dg_lt _ _) (dg_lt _ _) (dg_lt _ _) (dg_lt _ _), nat4_low]
theorem small_parts {c : Nat} (h : c ≤ 4294968273) : mulLo c 4294968273 < 18446744073709551616 ∧ mulHi c 4294968273 < 18446744073709551616 ∧ nat4 (mulLo c 4294968273) (mulHi c 4294968273) 0 0 = c * 4294968273 := by
  unfold mulLo mulHi nat4
  refine ⟨?_, ?_, ?_⟩ <;> omega
theorem times_top {V : Nat} (h : V ≤ 2 ^ 256 * 4294968273 + 2 ^ 256) : dg V 4 = V / 2 ^ 256 ∧ V / 2 ^ 256 ≤ 4294968274 := by
  unfold dg; simp only [Nat.reducePow]; omega
theorem tH_nat (a b : BitVec 256) : inR (mulLo (dg (tV4 a b) 4) 4294968273 : Nat) = true ∧ inR (mulHi (dg (tV4 a b) 4) 4294968273 : Nat) = true ∧ (tH a b).toNat = tV4 a b / 2 ^ 256 * 4294968273 := by
  obtain ⟨_, _, _, _, _, hle⟩ := times_nat a b
  obtain ⟨h1, h2⟩ := times_top hle
  have g : mulLo (dg (tV4 a b) 4) 4294968273 < 18446744073709551616 ∧ mulHi (dg (tV4 a b) 4) 4294968273 < 18446744073709551616 ∧ nat4 (mulLo (dg (tV4 a b) 4) 4294968273) (mulHi (dg (tV4 a b) 4) 4294968273) 0 0 = dg (tV4 a b) 4 * 4294968273 := by
    rw [h1]
    unfold mulLo mulHi nat4
    refine ⟨?_, ?_, ?_⟩ <;> omega
  obtain ⟨g1, g2, g3⟩ := g
  refine ⟨inR_limb g1, inR_limb g2, ?_⟩
  unfold tH
  rw [toNat_cc, ofLimbs_nat0 g1 g2, g3, h1]
theorem times_last {V : Nat} (h : V ≤ 2 ^ 256 * 4294968273 + 2 ^ 256) : V % 2 ^ 256 + V / 2 ^ 256 * 4294968273 < 2 * pP ∧ (V % 2 ^ 256 + V / 2 ^ 256 * 4294968273) % pP = V % pP := by
  refine ⟨by unfold pP; omega, ?_⟩
  rw [fold_mod, Nat.mod_add_div]
theorem times_eq (a b : BitVec 256) : cutV (tL a b + tH a b) (carryI (tL a b) (tH a b)) = uF (fU a * fU b) := by
  obtain ⟨_, _, _, _, hm, hle⟩ := times_nat a b
  obtain ⟨_, _, hH⟩ := tH_nat a b
  obtain ⟨h1, h2⟩ := times_last hle
  apply BitVec.eq_of_toNat_eq
  rw [cut_val (by rw [tL_nat, hH]; exact h1), tL_nat, hH, h2, hm, uF_nat, Fin.val_mul, fU_val, fU_val, ← Nat.mul_mod]
theorem inR_dg (V k : Nat) : inR ((dg V k : Nat) : Int) = true := inR_limb (dg_lt V k)
theorem inR_limbs (b : BitVec 256) (k : Nat) : inR (limb b k) = true := by
  simp only [inR, Bool.and_eq_true, decide_eq_true_eq]; exact ⟨limb_lo b k, limb_hi b k⟩
theorem inR_0 : inR 0 = true := by decide
theorem inR_sm : inR 4294968273 = true := by decide
theorem times_ok (a b : BitVec 256) : Pure Try.prog 70 [.u a, .u b] (.u (uF (fU a * fU b))) := by
  obtain ⟨h1, h2, _⟩ := tH_nat a b
  refine Pure.by_tree mixed fX2 100 _ _ (times_tree a b) ?_
  simp only [T.holds, inR_limbs, inR_dg, inR_0, inR_sm, toNat_cc, h1, h2, carry_bit, Bool.and_self, true_and]
  exact (SameV.u (times_eq a b)).r
noncomputable def c_times : Ctr Try.prog := Ctr.u2 70 (fun a b => .u (uF (fU a * fU b))) times_ok
noncomputable def fX3 : EnvT Try.prog := { cs := [c_times, c_plus, c_minusF, c_num_Of], fis := [fi_curve_cross, fi_curve_triple_add, fi_curve_triple_double, fi_curve_spread] }
end Go.Proofs.Ytglcjmnkhmdlhaa

/- Contracts: the curve's points: crosswise products. -/
namespace Go.Proofs.Ytglcjmnkhmdlhaa
open Go Go.RowKit

theorem cross01_tree (x y z u v w a b : BitVec 256) : (callT (fX3) (execT (fX3) 100) 71 [.agg [.u x, .u y, .u z], .agg [.u u, .u v, .u w], .int .i64 0, .int .i64 1, .u a, .u b] [] [] 0 []).map CR.v =
    (.need true
    (.need true
    (.need (ltP x)
    (.need (ltP y)
    (.need true
    (.need true
    (.need (ltP u)
    (.need (ltP v)
    (.need (ltP a)
    (.need (ltP b)
    (.need (ltP (uF ((fU (uF ((fU x) + (fU y)))) * (fU (uF ((fU u) + (fU v)))))))
    (.need (ltP (uF ((fU a) + (fU b))))
    (.leaf (.u (uF ((fU (uF ((fU (uF ((fU x) + (fU y)))) * (fU (uF ((fU u) + (fU v))))))) - (fU (uF ((fU a) + (fU b)))))))))))))))))))) := by kernel_rfl

theorem cross12_tree (x y z u v w a b : BitVec 256) : (callT (fX3) (execT (fX3) 100) 71 [.agg [.u x, .u y, .u z], .agg [.u u, .u v, .u w], .int .i64 1, .int .i64 2, .u a, .u b] [] [] 0 []).map CR.v =
    (.need true
    (.need true
    (.need (ltP y)
    (.need (ltP z)
    (.need true
    (.need true
    (.need (ltP v)
    (.need (ltP w)
    (.need (ltP a)
    (.need (ltP b)
    (.need (ltP (uF ((fU (uF ((fU y) + (fU z)))) * (fU (uF ((fU v) + (fU w)))))))
    (.need (ltP (uF ((fU a) + (fU b))))
    (.leaf (.u (uF ((fU (uF ((fU (uF ((fU y) + (fU z)))) * (fU (uF ((fU v) + (fU w))))))) - (fU (uF ((fU a) + (fU b)))))))))))))))))))) := by kernel_rfl

theorem cross02_tree (x y z u v w a b : BitVec 256) : (callT (fX3) (execT (fX3) 100) 71 [.agg [.u x, .u y, .u z], .agg [.u u, .u v, .u w], .int .i64 0, .int .i64 2, .u a, .u b] [] [] 0 []).map CR.v =
    (.need true
    (.need true
    (.need (ltP x)
    (.need (ltP z)
    (.need true
    (.need true
    (.need (ltP u)
    (.need (ltP w)
    (.need (ltP a)
    (.need (ltP b)
    (.need (ltP (uF ((fU (uF ((fU x) + (fU z)))) * (fU (uF ((fU u) + (fU w)))))))
    (.need (ltP (uF ((fU a) + (fU b))))
    (.leaf (.u (uF ((fU (uF ((fU (uF ((fU x) + (fU z)))) * (fU (uF ((fU u) + (fU w))))))) - (fU (uF ((fU a) + (fU b)))))))))))))))))))) := by kernel_rfl

def crossU (x y u v a b : BitVec 256) : BitVec 256 := uF ((fU x + fU y) * (fU u + fU v) - (fU a + fU b))
theorem cross01_ok (x y z u v w a b : BitVec 256) (h : ∀ c ∈ [ltP x, ltP y, ltP z, ltP u, ltP v, ltP w, ltP a, ltP b], c = true) : Pure Try.prog 71 [.agg [.u x, .u y, .u z], .agg [.u u, .u v, .u w], .int .i64 0, .int .i64 1, .u a, .u b] (.u (crossU x y u v a b)) := by
  simp only [List.mem_cons, List.not_mem_nil, or_false, forall_eq_or_imp, forall_eq] at h
  obtain ⟨h1, h2, h3, h4, h5, h6, h7, h8⟩ := h
  refine Pure.by_tree mixed fX3 100 _ _ (cross01_tree x y z u v w a b) ?_
  simp only [T.holds, ltP_uF, fU_uF, h1, h2, h3, h4, h5, h6, h7, h8, true_and]
  exact (SameV.u rfl).r
theorem cross12_ok (x y z u v w a b : BitVec 256) (h : ∀ c ∈ [ltP x, ltP y, ltP z, ltP u, ltP v, ltP w, ltP a, ltP b], c = true) : Pure Try.prog 71 [.agg [.u x, .u y, .u z], .agg [.u u, .u v, .u w], .int .i64 1, .int .i64 2, .u a, .u b] (.u (crossU y z v w a b)) := by
  simp only [List.mem_cons, List.not_mem_nil, or_false, forall_eq_or_imp, forall_eq] at h
  obtain ⟨h1, h2, h3, h4, h5, h6, h7, h8⟩ := h
  refine Pure.by_tree mixed fX3 100 _ _ (cross12_tree x y z u v w a b) ?_
  simp only [T.holds, ltP_uF, fU_uF, h1, h2, h3, h4, h5, h6, h7, h8, true_and]
  exact (SameV.u rfl).r
theorem cross02_ok (x y z u v w a b : BitVec 256) (h : ∀ c ∈ [ltP x, ltP y, ltP z, ltP u, ltP v, ltP w, ltP a, ltP b], c = true) : Pure Try.prog 71 [.agg [.u x, .u y, .u z], .agg [.u u, .u v, .u w], .int .i64 0, .int .i64 2, .u a, .u b] (.u (crossU x z u w a b)) := by
  simp only [List.mem_cons, List.not_mem_nil, or_false, forall_eq_or_imp, forall_eq] at h
  obtain ⟨h1, h2, h3, h4, h5, h6, h7, h8⟩ := h
  refine Pure.by_tree mixed fX3 100 _ _ (cross02_tree x y z u v w a b) ?_
  simp only [T.holds, ltP_uF, fU_uF, h1, h2, h3, h4, h5, h6, h7, h8, true_and]
  exact (SameV.u rfl).r
noncomputable def c_cross : Ctr Try.prog := Ctr.of 71 (fun
    | [.agg [.u x, .u y, .u z], .agg [.u u, .u v, .u w], .int .i64 0, .int .i64 1, .u a, .u b] => some ([ltP x, ltP y, ltP z, ltP u, ltP v, ltP w, ltP a, ltP b], .u (crossU x y u v a b))
    | [.agg [.u x, .u y, .u z], .agg [.u u, .u v, .u w], .int .i64 1, .int .i64 2, .u a, .u b] => some ([ltP x, ltP y, ltP z, ltP u, ltP v, ltP w, ltP a, ltP b], .u (crossU y z v w a b))
    | [.agg [.u x, .u y, .u z], .agg [.u u, .u v, .u w], .int .i64 0, .int .i64 2, .u a, .u b] => some ([ltP x, ltP y, ltP z, ltP u, ltP v, ltP w, ltP a, ltP b], .u (crossU x z u w a b))
    | _ => none) (by
  intro args ob v h hob
  split at h <;> simp only [Option.some.injEq, Prod.mk.injEq, reduceCtorEq] at h
  · obtain ⟨rfl, rfl⟩ := h; exact cross01_ok _ _ _ _ _ _ _ _ hob
  · obtain ⟨rfl, rfl⟩ := h; exact cross12_ok _ _ _ _ _ _ _ _ hob
  · obtain ⟨rfl, rfl⟩ := h; exact cross02_ok _ _ _ _ _ _ _ _ hob)
noncomputable def fX4 : EnvT Try.prog := { cs := [c_times, c_plus, c_minusF, c_num_Of, c_cross], fis := [fi_curve_triple_add, fi_curve_triple_double, fi_curve_spread] }
end Go.Proofs.Ytglcjmnkhmdlhaa

/- Contracts: the curve's points by three coordinates. -/
namespace Go.Proofs.Ytglcjmnkhmdlhaa
open Go Go.RowKit
def u1 : BitVec 256 := BitVec.ofNat 256 1
theorem fU_21 : fU (BitVec.ofNat 256 21) = 21 := by decide +kernel
theorem fU_7 : fU (BitVec.ofNat 256 7) = 7 := by decide +kernel
theorem fU_1 : fU (BitVec.ofNat 256 1) = 1 := by decide +kernel
theorem fU_00 : fU (ofLimbs 0 0 0 0) = 0 := by decide +kernel
theorem fU_0 : fU 0 = 0 := by decide +kernel
theorem ltP_21 : ltP (BitVec.ofNat 256 21) = true := by decide +kernel
theorem ltP_7 : ltP (BitVec.ofNat 256 7) = true := by decide +kernel
theorem ltP_1 : ltP (BitVec.ofNat 256 1) = true := by decide +kernel
theorem ltP_00 : ltP (ofLimbs 0 0 0 0) = true := by decide +kernel
theorem of1 : BitVec.ofNat 256 1 = uF 1 := by decide +kernel
theorem of0 : (0 : BitVec 256) = uF 0 := by decide +kernel
theorem of00 : ofLimbs 0 0 0 0 = uF 0 := by decide +kernel
theorem ltP_crossU (x y u v a b : BitVec 256) : ltP (crossU x y u v a b) = true := ltP_uF _
theorem fU_crossU (x y u v a b : BitVec 256) : fU (crossU x y u v a b) = (fU x + fU y) * (fU u + fU v) - (fU a + fU b) := fU_uF _
/-- A triple, as a value. -/
def trV (t : Tr pP) : AV := .agg [.u (uF t.X), .u (uF t.Y), .u (uF t.Z)]
theorem SameV.agg3 (a b c : BitVec 256) : SameV (.agg [.u a, .u b, .u c]) (.agg [.u a, .u b, .u c]) := ⟨rfl, rfl, fun ρ x hx => by simpa only [RV1, RC, RCs] using hx⟩
theorem SameR.agg3 {a b c a' b' c' : BitVec 256} (h1 : a = a') (h2 : b = b') (h3 : c = c') : SameR (.agg [.u a, .u b, .u c]) (.agg [.u a', .u b', .u c']) := by
  subst h1 h2 h3; exact (SameV.agg3 _ _ _).r
theorem tadd_tree (x y z u v w : FP) : (callT (fX4) (execT (fX4) 100) 50 [.agg [.u (uF x), .u (uF y), .u (uF z)], .agg [.u (uF u), .u (uF v), .u (uF w)]] [] [] 0 []).map CR.v =
    (.need (ltP (uF x))
    (.need (ltP (uF y))
    (.need (ltP (uF z))
    (.need (ltP (uF u))
    (.need (ltP (uF v))
    (.need (ltP (uF w))
    (.need (ltP (uF ((fU (uF x)) * (fU (uF u)))))
    (.need (ltP (uF ((fU (uF y)) * (fU (uF v)))))
    (.need (ltP (uF x))
    (.need (ltP (uF y))
    (.need (ltP (uF z))
    (.need (ltP (uF u))
    (.need (ltP (uF v))
    (.need (ltP (uF w))
    (.need (ltP (uF ((fU (uF y)) * (fU (uF v)))))
    (.need (ltP (uF ((fU (uF z)) * (fU (uF w)))))
    (.need (ltP (uF x))
    (.need (ltP (uF y))
    (.need (ltP (uF z))
    (.need (ltP (uF u))
    (.need (ltP (uF v))
    (.need (ltP (uF w))
    (.need (ltP (uF ((fU (uF x)) * (fU (uF u)))))
    (.need (ltP (uF ((fU (uF z)) * (fU (uF w)))))
    (.need true
    (.need (ltP (uF ((fU (uF x)) * (fU (uF u)))))
    (.need (ltP (uF ((fU (uF x)) * (fU (uF u)))))
    (.need (ltP (uF ((fU (uF ((fU (uF x)) * (fU (uF u))))) + (fU (uF ((fU (uF x)) * (fU (uF u))))))))
    (.need (ltP (uF ((fU (uF x)) * (fU (uF u)))))
    (.need (ltP (uF ((fU (uF y)) * (fU (uF v)))))
    (.need (ltP (uF ((fU (BitVec.ofNat 256 21)) * (fU (uF ((fU (uF z)) * (fU (uF w))))))))
    (.need (ltP (uF ((fU (uF y)) * (fU (uF v)))))
    (.need (ltP (uF ((fU (BitVec.ofNat 256 21)) * (fU (uF ((fU (uF z)) * (fU (uF w))))))))
    (.need (ltP (uF ((fU (crossU (uF x) (uF y) (uF u) (uF v) (uF ((fU (uF x)) * (fU (uF u)))) (uF ((fU (uF y)) * (fU (uF v)))))) * (fU (uF ((fU (uF ((fU (uF y)) * (fU (uF v))))) - (fU (uF ((fU (BitVec.ofNat 256 21)) * (fU (uF ((fU (uF z)) * (fU (uF w))))))))))))))
    (.need (ltP (uF ((fU (crossU (uF y) (uF z) (uF v) (uF w) (uF ((fU (uF y)) * (fU (uF v)))) (uF ((fU (uF z)) * (fU (uF w)))))) * (fU (uF ((fU (BitVec.ofNat 256 21)) * (fU (crossU (uF x) (uF z) (uF u) (uF w) (uF ((fU (uF x)) * (fU (uF u)))) (uF ((fU (uF z)) * (fU (uF w))))))))))))
    (.need (ltP (uF ((fU (uF ((fU (uF ((fU (uF y)) * (fU (uF v))))) - (fU (uF ((fU (BitVec.ofNat 256 21)) * (fU (uF ((fU (uF z)) * (fU (uF w))))))))))) * (fU (uF ((fU (uF ((fU (uF y)) * (fU (uF v))))) + (fU (uF ((fU (BitVec.ofNat 256 21)) * (fU (uF ((fU (uF z)) * (fU (uF w))))))))))))))
    (.need (ltP (uF ((fU (uF ((fU (BitVec.ofNat 256 21)) * (fU (crossU (uF x) (uF z) (uF u) (uF w) (uF ((fU (uF x)) * (fU (uF u)))) (uF ((fU (uF z)) * (fU (uF w))))))))) * (fU (uF ((fU (uF ((fU (uF ((fU (uF x)) * (fU (uF u))))) + (fU (uF ((fU (uF x)) * (fU (uF u)))))))) + (fU (uF ((fU (uF x)) * (fU (uF u)))))))))))
    (.need (ltP (uF ((fU (uF ((fU (uF ((fU (uF y)) * (fU (uF v))))) + (fU (uF ((fU (BitVec.ofNat 256 21)) * (fU (uF ((fU (uF z)) * (fU (uF w))))))))))) * (fU (crossU (uF y) (uF z) (uF v) (uF w) (uF ((fU (uF y)) * (fU (uF v)))) (uF ((fU (uF z)) * (fU (uF w)))))))))
    (.need (ltP (uF ((fU (uF ((fU (uF ((fU (uF ((fU (uF x)) * (fU (uF u))))) + (fU (uF ((fU (uF x)) * (fU (uF u)))))))) + (fU (uF ((fU (uF x)) * (fU (uF u)))))))) * (fU (crossU (uF x) (uF y) (uF u) (uF v) (uF ((fU (uF x)) * (fU (uF u)))) (uF ((fU (uF y)) * (fU (uF v)))))))))
    (.leaf (.agg [(.u (uF ((fU (uF ((fU (crossU (uF x) (uF y) (uF u) (uF v) (uF ((fU (uF x)) * (fU (uF u)))) (uF ((fU (uF y)) * (fU (uF v)))))) * (fU (uF ((fU (uF ((fU (uF y)) * (fU (uF v))))) - (fU (uF ((fU (BitVec.ofNat 256 21)) * (fU (uF ((fU (uF z)) * (fU (uF w)))))))))))))) - (fU (uF ((fU (crossU (uF y) (uF z) (uF v) (uF w) (uF ((fU (uF y)) * (fU (uF v)))) (uF ((fU (uF z)) * (fU (uF w)))))) * (fU (uF ((fU (BitVec.ofNat 256 21)) * (fU (crossU (uF x) (uF z) (uF u) (uF w) (uF ((fU (uF x)) * (fU (uF u)))) (uF ((fU (uF z)) * (fU (uF w))))))))))))))), (.u (uF ((fU (uF ((fU (uF ((fU (uF ((fU (uF y)) * (fU (uF v))))) - (fU (uF ((fU (BitVec.ofNat 256 21)) * (fU (uF ((fU (uF z)) * (fU (uF w))))))))))) * (fU (uF ((fU (uF ((fU (uF y)) * (fU (uF v))))) + (fU (uF ((fU (BitVec.ofNat 256 21)) * (fU (uF ((fU (uF z)) * (fU (uF w)))))))))))))) + (fU (uF ((fU (uF ((fU (BitVec.ofNat 256 21)) * (fU (crossU (uF x) (uF z) (uF u) (uF w) (uF ((fU (uF x)) * (fU (uF u)))) (uF ((fU (uF z)) * (fU (uF w))))))))) * (fU (uF ((fU (uF ((fU (uF ((fU (uF x)) * (fU (uF u))))) + (fU (uF ((fU (uF x)) * (fU (uF u)))))))) + (fU (uF ((fU (uF x)) * (fU (uF u)))))))))))))), (.u (uF ((fU (uF ((fU (uF ((fU (uF ((fU (uF y)) * (fU (uF v))))) + (fU (uF ((fU (BitVec.ofNat 256 21)) * (fU (uF ((fU (uF z)) * (fU (uF w))))))))))) * (fU (crossU (uF y) (uF z) (uF v) (uF w) (uF ((fU (uF y)) * (fU (uF v)))) (uF ((fU (uF z)) * (fU (uF w))))))))) + (fU (uF ((fU (uF ((fU (uF ((fU (uF ((fU (uF x)) * (fU (uF u))))) + (fU (uF ((fU (uF x)) * (fU (uF u)))))))) + (fU (uF ((fU (uF x)) * (fU (uF u)))))))) * (fU (crossU (uF x) (uF y) (uF u) (uF v) (uF ((fU (uF x)) * (fU (uF u)))) (uF ((fU (uF y)) * (fU (uF v))))))))))))]))))))))))))))))))))))))))))))))))))))))) := by kernel_rfl
theorem tdbl_tree (x y z : FP) : (callT (fX4) (execT (fX4) 100) 69 [.agg [.u (uF x), .u (uF y), .u (uF z)]] [] [] 0 []).map CR.v =
    (.need true
    (.need (ltP (uF ((fU (uF y)) * (fU (uF y)))))
    (.need (ltP (uF ((fU (uF y)) * (fU (uF y)))))
    (.need (ltP (uF ((fU (uF ((fU (uF y)) * (fU (uF y))))) + (fU (uF ((fU (uF y)) * (fU (uF y))))))))
    (.need (ltP (uF ((fU (uF ((fU (uF y)) * (fU (uF y))))) + (fU (uF ((fU (uF y)) * (fU (uF y))))))))
    (.need (ltP (uF ((fU (uF ((fU (uF ((fU (uF y)) * (fU (uF y))))) + (fU (uF ((fU (uF y)) * (fU (uF y)))))))) + (fU (uF ((fU (uF ((fU (uF y)) * (fU (uF y))))) + (fU (uF ((fU (uF y)) * (fU (uF y)))))))))))
    (.need (ltP (uF ((fU (uF ((fU (uF ((fU (uF y)) * (fU (uF y))))) + (fU (uF ((fU (uF y)) * (fU (uF y)))))))) + (fU (uF ((fU (uF ((fU (uF y)) * (fU (uF y))))) + (fU (uF ((fU (uF y)) * (fU (uF y)))))))))))
    (.need (ltP (uF ((fU (BitVec.ofNat 256 21)) * (fU (uF ((fU (uF z)) * (fU (uF z))))))))
    (.need (ltP (uF ((fU (BitVec.ofNat 256 21)) * (fU (uF ((fU (uF z)) * (fU (uF z))))))))
    (.need (ltP (uF ((fU (uF ((fU (BitVec.ofNat 256 21)) * (fU (uF ((fU (uF z)) * (fU (uF z)))))))) + (fU (uF ((fU (BitVec.ofNat 256 21)) * (fU (uF ((fU (uF z)) * (fU (uF z)))))))))))
    (.need (ltP (uF ((fU (BitVec.ofNat 256 21)) * (fU (uF ((fU (uF z)) * (fU (uF z))))))))
    (.need (ltP (uF ((fU (uF y)) * (fU (uF y)))))
    (.need (ltP (uF ((fU (uF ((fU (uF ((fU (BitVec.ofNat 256 21)) * (fU (uF ((fU (uF z)) * (fU (uF z)))))))) + (fU (uF ((fU (BitVec.ofNat 256 21)) * (fU (uF ((fU (uF z)) * (fU (uF z))))))))))) + (fU (uF ((fU (BitVec.ofNat 256 21)) * (fU (uF ((fU (uF z)) * (fU (uF z)))))))))))
    (.need (ltP (uF ((fU (uF ((fU (uF ((fU (uF y)) * (fU (uF y))))) - (fU (uF ((fU (uF ((fU (uF ((fU (BitVec.ofNat 256 21)) * (fU (uF ((fU (uF z)) * (fU (uF z)))))))) + (fU (uF ((fU (BitVec.ofNat 256 21)) * (fU (uF ((fU (uF z)) * (fU (uF z))))))))))) + (fU (uF ((fU (BitVec.ofNat 256 21)) * (fU (uF ((fU (uF z)) * (fU (uF z)))))))))))))) * (fU (uF ((fU (uF x)) * (fU (uF y))))))))
    (.need (ltP (uF ((fU (uF ((fU (uF ((fU (uF y)) * (fU (uF y))))) - (fU (uF ((fU (uF ((fU (uF ((fU (BitVec.ofNat 256 21)) * (fU (uF ((fU (uF z)) * (fU (uF z)))))))) + (fU (uF ((fU (BitVec.ofNat 256 21)) * (fU (uF ((fU (uF z)) * (fU (uF z))))))))))) + (fU (uF ((fU (BitVec.ofNat 256 21)) * (fU (uF ((fU (uF z)) * (fU (uF z)))))))))))))) * (fU (uF ((fU (uF x)) * (fU (uF y))))))))
    (.need (ltP (uF ((fU (uF y)) * (fU (uF y)))))
    (.need (ltP (uF ((fU (BitVec.ofNat 256 21)) * (fU (uF ((fU (uF z)) * (fU (uF z))))))))
    (.need (ltP (uF ((fU (uF ((fU (BitVec.ofNat 256 21)) * (fU (uF ((fU (uF z)) * (fU (uF z)))))))) * (fU (uF ((fU (uF ((fU (uF ((fU (uF ((fU (uF y)) * (fU (uF y))))) + (fU (uF ((fU (uF y)) * (fU (uF y)))))))) + (fU (uF ((fU (uF ((fU (uF y)) * (fU (uF y))))) + (fU (uF ((fU (uF y)) * (fU (uF y))))))))))) + (fU (uF ((fU (uF ((fU (uF ((fU (uF y)) * (fU (uF y))))) + (fU (uF ((fU (uF y)) * (fU (uF y)))))))) + (fU (uF ((fU (uF ((fU (uF y)) * (fU (uF y))))) + (fU (uF ((fU (uF y)) * (fU (uF y)))))))))))))))))
    (.need (ltP (uF ((fU (uF ((fU (uF ((fU (uF y)) * (fU (uF y))))) - (fU (uF ((fU (uF ((fU (uF ((fU (BitVec.ofNat 256 21)) * (fU (uF ((fU (uF z)) * (fU (uF z)))))))) + (fU (uF ((fU (BitVec.ofNat 256 21)) * (fU (uF ((fU (uF z)) * (fU (uF z))))))))))) + (fU (uF ((fU (BitVec.ofNat 256 21)) * (fU (uF ((fU (uF z)) * (fU (uF z)))))))))))))) * (fU (uF ((fU (uF ((fU (uF y)) * (fU (uF y))))) + (fU (uF ((fU (BitVec.ofNat 256 21)) * (fU (uF ((fU (uF z)) * (fU (uF z))))))))))))))
    (.leaf (.agg [(.u (uF ((fU (uF ((fU (uF ((fU (uF ((fU (uF y)) * (fU (uF y))))) - (fU (uF ((fU (uF ((fU (uF ((fU (BitVec.ofNat 256 21)) * (fU (uF ((fU (uF z)) * (fU (uF z)))))))) + (fU (uF ((fU (BitVec.ofNat 256 21)) * (fU (uF ((fU (uF z)) * (fU (uF z))))))))))) + (fU (uF ((fU (BitVec.ofNat 256 21)) * (fU (uF ((fU (uF z)) * (fU (uF z)))))))))))))) * (fU (uF ((fU (uF x)) * (fU (uF y)))))))) + (fU (uF ((fU (uF ((fU (uF ((fU (uF y)) * (fU (uF y))))) - (fU (uF ((fU (uF ((fU (uF ((fU (BitVec.ofNat 256 21)) * (fU (uF ((fU (uF z)) * (fU (uF z)))))))) + (fU (uF ((fU (BitVec.ofNat 256 21)) * (fU (uF ((fU (uF z)) * (fU (uF z))))))))))) + (fU (uF ((fU (BitVec.ofNat 256 21)) * (fU (uF ((fU (uF z)) * (fU (uF z)))))))))))))) * (fU (uF ((fU (uF x)) * (fU (uF y))))))))))), (.u (uF ((fU (uF ((fU (uF ((fU (BitVec.ofNat 256 21)) * (fU (uF ((fU (uF z)) * (fU (uF z)))))))) * (fU (uF ((fU (uF ((fU (uF ((fU (uF ((fU (uF y)) * (fU (uF y))))) + (fU (uF ((fU (uF y)) * (fU (uF y)))))))) + (fU (uF ((fU (uF ((fU (uF y)) * (fU (uF y))))) + (fU (uF ((fU (uF y)) * (fU (uF y))))))))))) + (fU (uF ((fU (uF ((fU (uF ((fU (uF y)) * (fU (uF y))))) + (fU (uF ((fU (uF y)) * (fU (uF y)))))))) + (fU (uF ((fU (uF ((fU (uF y)) * (fU (uF y))))) + (fU (uF ((fU (uF y)) * (fU (uF y))))))))))))))))) + (fU (uF ((fU (uF ((fU (uF ((fU (uF y)) * (fU (uF y))))) - (fU (uF ((fU (uF ((fU (uF ((fU (BitVec.ofNat 256 21)) * (fU (uF ((fU (uF z)) * (fU (uF z)))))))) + (fU (uF ((fU (BitVec.ofNat 256 21)) * (fU (uF ((fU (uF z)) * (fU (uF z))))))))))) + (fU (uF ((fU (BitVec.ofNat 256 21)) * (fU (uF ((fU (uF z)) * (fU (uF z)))))))))))))) * (fU (uF ((fU (uF ((fU (uF y)) * (fU (uF y))))) + (fU (uF ((fU (BitVec.ofNat 256 21)) * (fU (uF ((fU (uF z)) * (fU (uF z))))))))))))))))), (.u (uF ((fU (uF ((fU (uF y)) * (fU (uF z))))) * (fU (uF ((fU (uF ((fU (uF ((fU (uF ((fU (uF y)) * (fU (uF y))))) + (fU (uF ((fU (uF y)) * (fU (uF y)))))))) + (fU (uF ((fU (uF ((fU (uF y)) * (fU (uF y))))) + (fU (uF ((fU (uF y)) * (fU (uF y))))))))))) + (fU (uF ((fU (uF ((fU (uF ((fU (uF y)) * (fU (uF y))))) + (fU (uF ((fU (uF y)) * (fU (uF y)))))))) + (fU (uF ((fU (uF ((fU (uF y)) * (fU (uF y))))) + (fU (uF ((fU (uF y)) * (fU (uF y)))))))))))))))))]))))))))))))))))))))) := by kernel_rfl
section
variable {p : Nat} [NeZero p]
def Tr.dbl (t : Tr p) : Tr p :=
  ⟨2 * ((t.Y * t.Y - 63 * (t.Z * t.Z)) * (t.X * t.Y)), 21 * (t.Z * t.Z) * (8 * (t.Y * t.Y)) + (t.Y * t.Y - 63 * (t.Z * t.Z)) * (t.Y * t.Y + 21 * (t.Z * t.Z)), t.Y * t.Z * (8 * (t.Y * t.Y))⟩
theorem tadd_ring1 (x y z u v w : Fin p) : ((x + y) * (u + v) - (x * u + y * v)) * (y * v - 21 * (z * w)) - ((y + z) * (v + w) - (y * v + z * w)) * (21 * ((x + z) * (u + w) - (x * u + z * w))) = (x * v + u * y) * (y * v - 21 * (z * w)) - (y * w + v * z) * (21 * (x * w + u * z)) := by
  have e1 : (x + y) * (u + v) - (x * u + y * v) = x * v + u * y := by grind
  have e2 : (y + z) * (v + w) - (y * v + z * w) = y * w + v * z := by grind
  have e3 : (x + z) * (u + w) - (x * u + z * w) = x * w + u * z := by grind
  rw [e1, e2, e3]
theorem tadd_ring2 (x y z u v w : Fin p) : (y * v - 21 * (z * w)) * (y * v + 21 * (z * w)) + 21 * ((x + z) * (u + w) - (x * u + z * w)) * (x * u + x * u + x * u) = (y * v + 21 * (z * w)) * (y * v - 21 * (z * w)) + 21 * (x * w + u * z) * (3 * (x * u)) := by
  have e3 : (x + z) * (u + w) - (x * u + z * w) = x * w + u * z := by grind
  have e4 : x * u + x * u + x * u = 3 * (x * u) := by grind
  rw [e3, e4]; grind
theorem tadd_ring3 (x y z u v w : Fin p) : (y * v + 21 * (z * w)) * ((y + z) * (v + w) - (y * v + z * w)) + (x * u + x * u + x * u) * ((x + y) * (u + v) - (x * u + y * v)) = (y * v + 21 * (z * w)) * (y * w + v * z) + 3 * (x * u) * (x * v + u * y) := by
  have e1 : (x + y) * (u + v) - (x * u + y * v) = x * v + u * y := by grind
  have e2 : (y + z) * (v + w) - (y * v + z * w) = y * w + v * z := by grind
  have e4 : x * u + x * u + x * u = 3 * (x * u) := by grind
  rw [e1, e2, e4]
theorem three_21 (z : Fin p) : 21 * z + 21 * z + 21 * z = 63 * z := by grind
theorem two_x (z : Fin p) : z + z = 2 * z := by grind
theorem eight_x (z : Fin p) : 2 * (2 * (2 * z)) = 8 * z := by grind
theorem Tr.dbl_add {t : Tr p} (h : t.Y * t.Y * t.Z = t.X * t.X * t.X + 7 * t.Z * t.Z * t.Z) : Tr.dbl t = Tr.add t t := by
  obtain ⟨x, y, z⟩ := t
  simp only at h
  simp only [Tr.dbl, Tr.add, Tr.mk.injEq]
  refine ⟨by grind, by grind, by grind⟩
end
theorem tadd_ok (x y z u v w : FP) : Pure Try.prog 50 [.agg [.u (uF x), .u (uF y), .u (uF z)], .agg [.u (uF u), .u (uF v), .u (uF w)]] (trV (Tr.add ⟨x, y, z⟩ ⟨u, v, w⟩)) := by
  refine Pure.by_tree mixed fX4 100 _ _ (tadd_tree x y z u v w) ?_
  simp only [T.holds, ltP_uF, fU_uF, ltP_crossU, fU_crossU, ltP_21, fU_21, true_and]
  exact SameR.agg3 (congrArg uF (tadd_ring1 x y z u v w)) (congrArg uF (tadd_ring2 x y z u v w)) (congrArg uF (tadd_ring3 x y z u v w))
theorem tdbl_ok (x y z : FP) : Pure Try.prog 69 [.agg [.u (uF x), .u (uF y), .u (uF z)]] (trV (Tr.dbl ⟨x, y, z⟩)) := by
  refine Pure.by_tree mixed fX4 100 _ _ (tdbl_tree x y z) ?_
  simp only [T.holds, ltP_uF, fU_uF, ltP_21, fU_21, true_and, three_21]
  simp only [two_x, eight_x]
  exact SameR.agg3 rfl rfl rfl
theorem tadd_okU {x y z u v w : BitVec 256} (h1 : ltP x = true) (h2 : ltP y = true) (h3 : ltP z = true) (h4 : ltP u = true) (h5 : ltP v = true) (h6 : ltP w = true) : Pure Try.prog 50 [.agg [.u x, .u y, .u z], .agg [.u u, .u v, .u w]] (trV (Tr.add ⟨fU x, fU y, fU z⟩ ⟨fU u, fU v, fU w⟩)) := by
  have := tadd_ok (fU x) (fU y) (fU z) (fU u) (fU v) (fU w)
  rw [uF_fU h1, uF_fU h2, uF_fU h3, uF_fU h4, uF_fU h5, uF_fU h6] at this
  exact this
theorem tdbl_okU {x y z : BitVec 256} (h1 : ltP x = true) (h2 : ltP y = true) (h3 : ltP z = true) : Pure Try.prog 69 [.agg [.u x, .u y, .u z]] (trV (Tr.dbl ⟨fU x, fU y, fU z⟩)) := by
  have := tdbl_ok (fU x) (fU y) (fU z)
  rw [uF_fU h1, uF_fU h2, uF_fU h3] at this
  exact this
noncomputable def c_tadd : Ctr Try.prog := Ctr.of 50 (fun
    | [.agg [.u x, .u y, .u z], .agg [.u u, .u v, .u w]] => some ([ltP x, ltP y, ltP z, ltP u, ltP v, ltP w], trV (Tr.add ⟨fU x, fU y, fU z⟩ ⟨fU u, fU v, fU w⟩))
    | _ => none) (by
  intro args ob v h hob
  split at h <;> simp only [Option.some.injEq, Prod.mk.injEq, reduceCtorEq] at h
  obtain ⟨rfl, rfl⟩ := h
  simp only [List.mem_cons, List.not_mem_nil, or_false, forall_eq_or_imp, forall_eq] at hob
  obtain ⟨h1, h2, h3, h4, h5, h6⟩ := hob
  exact tadd_okU h1 h2 h3 h4 h5 h6)
noncomputable def c_tdbl : Ctr Try.prog := Ctr.of 69 (fun
    | [.agg [.u x, .u y, .u z]] => some ([ltP x, ltP y, ltP z], trV (Tr.dbl ⟨fU x, fU y, fU z⟩))
    | _ => none) (by
  intro args ob v h hob
  split at h <;> simp only [Option.some.injEq, Prod.mk.injEq, reduceCtorEq] at h
  obtain ⟨rfl, rfl⟩ := h
  simp only [List.mem_cons, List.not_mem_nil, or_false, forall_eq_or_imp, forall_eq] at hob
  obtain ⟨h1, h2, h3⟩ := hob
  exact tdbl_okU h1 h2 h3)
theorem spread_tree (x y : BitVec 256) (n : Bool) : (callT (fX4) (execT (fX4) 100) 48 [.agg [.u x, .u y, .bool n]] [] [] 0 []).map CR.v =
    (.ite n
     (.need true
     (.leaf (.agg [(.ints .u64 4 [(0 : Int), (0 : Int), (0 : Int), (0 : Int)]), (.u (BitVec.ofNat 256 1)), (.ints .u64 4 [(0 : Int), (0 : Int), (0 : Int), (0 : Int)])])))
     (.need true
     (.leaf (.agg [(.u x), (.u y), (.u (BitVec.ofNat 256 1))])))) := by kernel_rfl
def SameC (v v' : AV) : Prop := ∀ ρ cs, RC ρ v cs → RC ρ0 v' cs
def SameCs (l l' : List AV) : Prop := ∀ ρ cs, RCs ρ l cs → RCs ρ0 l' cs
theorem SameC.u {x y : BitVec 256} (h : x = y) : SameC (.u x) (.u y) := fun ρ cs hx => by subst h; simpa only [RC] using hx
theorem SameC.bool {x y : Bool} (h : x = y) : SameC (.bool x) (.bool y) := fun ρ cs hx => by subst h; simpa only [RC] using hx
theorem SameC.u4 {l : List Int} {y : BitVec 256} (h : l = [limb y 0, limb y 1, limb y 2, limb y 3]) : SameC (.ints .u64 4 l) (.u y) := fun ρ cs hx => by
  subst h
  simp only [RC] at hx ⊢
  rw [hx.2]; rfl
theorem SameCs.nil : SameCs [] [] := fun ρ cs hx => by simpa only [RCs] using hx
theorem SameCs.cons {a a' : AV} {l l' : List AV} (h1 : SameC a a') (h2 : SameCs l l') : SameCs (a :: l) (a' :: l') := fun ρ cs hx => by
  simp only [RCs] at hx ⊢
  obtain ⟨c1, c2, e1, e2, e3⟩ := hx
  exact ⟨c1, c2, h1 ρ c1 e1, h2 ρ c2 e2, e3⟩
theorem SameV.agg {l l' : List AV} (h : SameCs l l') : SameV (.agg l) (.agg l') := ⟨rfl, rfl, fun ρ x hx => by
  simp only [RV1] at hx ⊢
  obtain ⟨cs, h1, h2⟩ := hx
  exact ⟨cs, h ρ cs h1, h2⟩⟩
theorem zero4 : [(0 : Int), 0, 0, 0] = [limb 0 0, limb 0 1, limb 0 2, limb 0 3] := by kernel_rfl
/-- A point, as a value. -/
def ptX : Pt pP → BitVec 256
  | .O => 0
  | .A x _ => uF x
def ptY : Pt pP → BitVec 256
  | .O => 0
  | .A _ y => uF y
def ptN : Pt pP → Bool
  | .O => true
  | .A _ _ => false
def ptV (P : Pt pP) : AV := .agg [.u (ptX P), .u (ptY P), .bool (ptN P)]
def sp : Pt pP → Tr pP
  | .O => ⟨0, 1, 0⟩
  | .A x y => ⟨x, y, 1⟩
/-- A point's three coordinates; 'nowhere' has 0, 1, 0. -/
def sprX (x : BitVec 256) : Bool → BitVec 256
  | true => 0
  | false => x
def sprY (y : BitVec 256) : Bool → BitVec 256
  | true => BitVec.ofNat 256 1
  | false => y
def sprZ : Bool → BitVec 256
  | true => 0
  | false => BitVec.ofNat 256 1
theorem sprX_pt (P : Pt pP) : sprX (ptX P) (ptN P) = uF (sp P).X := by cases P <;> first | rfl | exact of0
theorem sprY_pt (P : Pt pP) : sprY (ptY P) (ptN P) = uF (sp P).Y := by cases P <;> first | rfl | exact of1
theorem sprZ_pt (P : Pt pP) : sprZ (ptN P) = uF (sp P).Z := by cases P <;> first | exact of0 | exact of1
theorem spread_ok (x y : BitVec 256) (n : Bool) : Pure Try.prog 48 [.agg [.u x, .u y, .bool n]] (.agg [.u (sprX x n), .u (sprY y n), .u (sprZ n)]) := by
  refine Pure.by_tree mixed fX4 100 _ _ (spread_tree x y n) ⟨fun h => ⟨rfl, ?_⟩, fun h => ⟨rfl, ?_⟩⟩
  · subst h
    exact (SameV.agg (.cons (.u4 zero4) (.cons (.u rfl) (.cons (.u4 zero4) .nil)))).r
  · subst h
    exact (SameV.agg (.cons (.u rfl) (.cons (.u rfl) (.cons (.u rfl) .nil)))).r
noncomputable def c_spread : Ctr Try.prog := Ctr.of 48 (fun
    | [.agg [.u x, .u y, .bool n]] => some ([], .agg [.u (sprX x n), .u (sprY y n), .u (sprZ n)])
    | _ => none) (by
  intro args ob v h hob
  split at h <;> simp only [Option.some.injEq, Prod.mk.injEq, reduceCtorEq] at h
  obtain ⟨rfl, rfl⟩ := h
  exact spread_ok _ _ _)
noncomputable def fX5 : EnvT Try.prog := { cs := [c_times, c_plus, c_minusF, c_num_Of, c_tadd, c_tdbl, c_spread, c_num_Bits], fis := [fi_curve_root, fi_curve_triple_flat] }
end Go.Proofs.Ytglcjmnkhmdlhaa

/- Contracts: the curve's powers (curve.root). -/
namespace Go.Proofs.Ytglcjmnkhmdlhaa
open Go Go.RowKit
theorem cv_and1 {x : Nat} (hx : x < 18446744073709551616) : iand .u64 (x : Int) 1 = ((x % 2 : Nat) : Int) := by
  have h1 : (x : Int) = ((BitVec.ofNat 64 x).toNat : Int) := by rw [BitVec.toNat_ofNat]; omega
  have h2 : (1 : Int) = ((1#64).toNat : Int) := rfl
  rw [h1, h2, iand_bv, BitVec.toNat_and, BitVec.toNat_ofNat]
  have h3 : (1#64).toNat = 2 ^ 1 - 1 := rfl
  rw [h3, Nat.and_two_pow_sub_one_eq_mod]
  omega
theorem cv_wrap {n : Int} (h0 : -4611686018427387904 ≤ n) (h1 : n ≤ 4611686018427387904) : IntKind.i64.wrap n = n := by
  simp [IntKind.wrap, IntKind.signed, IntKind.bits]; omega
/-- A number's bit. -/
def bitT (n : BitVec 256) (i : Int) : Int := iand .u64 (ishr .u64 (limb n (Int.toNat (IntKind.wrap .i64 (Int.tdiv i (64 : Int))))) (Int.tmod i (64 : Int))) (1 : Int)
theorem cv_tdiv (i : Nat) : Int.tdiv (i : Int) 64 = ((i / 64 : Nat) : Int) := rfl
theorem cv_tmod (i : Nat) : Int.tmod (i : Int) 64 = ((i % 64 : Nat) : Int) := rfl
theorem bit_nat (n i : Nat) : n / 2 ^ (64 * (i / 64)) % 2 ^ 64 / 2 ^ (i % 64) % 2 = n / 2 ^ i % 2 := by
  have h : ((n / 2 ^ (64 * (i / 64)) % 2 ^ 64).testBit (i % 64)) = n.testBit i := by
    rw [Nat.testBit_mod_two_pow, Nat.testBit_div_two_pow]
    have h1 : i % 64 < 64 := Nat.mod_lt _ (by decide)
    have h2 : i % 64 + 64 * (i / 64) = i := by omega
    simp only [h1, decide_true, Bool.true_and, h2]
  rw [Nat.testBit_eq_decide_div_mod_eq, Nat.testBit_eq_decide_div_mod_eq] at h
  have h := decide_eq_decide.mp h
  omega
theorem bitT_eq (n : BitVec 256) {i : Nat} (hi : i < 256) : bitT n i = ((n.toNat / 2 ^ i % 2 : Nat) : Int) := by
  unfold bitT
  rw [cv_tdiv, cv_tmod, cv_wrap (by omega) (by omega), Int.toNat_natCast]
  unfold limb
  have h1 : n.toNat / 2 ^ (64 * (i / 64)) % 2 ^ 64 / 2 ^ (i % 64) < 18446744073709551616 :=
    Nat.lt_of_le_of_lt (Nat.div_le_self _ _) (Nat.mod_lt _ (by decide))
  rw [ishr_nat _ _ (by omega), cv_and1 h1, bit_nat]
theorem cv_range {i : Nat} (hi : i < 256) : ((decide ((0 : Int) ≤ (IntKind.wrap .i64 (Int.tdiv (i : Int) (64 : Int))))) && (decide ((IntKind.wrap .i64 (Int.tdiv (i : Int) (64 : Int))) < (4 : Int)))) = true ∧
    Nat.ble ((Int.toNat (IntKind.wrap .i64 (Int.tdiv (i : Int) (64 : Int)))) + 1) 4 = true ∧ decide ((0 : Int) ≤ (Int.tmod (i : Int) (64 : Int))) = true := by
  rw [cv_tdiv, cv_tmod, cv_wrap (by omega) (by omega), Int.toNat_natCast]
  refine ⟨?_, Nat.ble_eq_true_of_le (by omega), decide_eq_true (by omega)⟩
  rw [Bool.and_eq_true]
  exact ⟨decide_eq_true (by omega), decide_eq_true (by omega)⟩
noncomputable def root_st (a : BitVec 256) (n : BitVec 256) (v1 : Int) (v2 : BitVec 256) : KS := ⟨⟨pat' [(2, (.ptr 0 [])), (3, (.ptr 1 [])), (4, (.ptr 2 [])), (5, (.ptr 4 [])), (6, (.int .i64 v1))] 0 31, [(some ⟨24, (.u a), true⟩), (some ⟨24, (.u n), true⟩), (some ⟨24, (.ints .u64 4 [(0 : Int), (0 : Int), (0 : Int), (0 : Int)]), true⟩), none, (some ⟨24, (.u v2), true⟩)], 5⟩, kpat [2, 3, 4, 5] 0 31, [false, false, true, false, false]⟩
theorem root_body (a : BitVec 256) (n : BitVec 256) (v1 : Int) (v2 : BitVec 256) : stepT fX5 100 fi_curve_root [0, 1, 0, 1, 1] [2, 3, 4, 5, 6] 5 (kpat [2, 3, 4, 5] 0 31) [false, false, true, false, false] (root_st a n v1 v2) =
    (.ite (decide (v1 ≥ (0 : Int)))
     (.need ((decide ((0 : Int) ≤ (IntKind.wrap .i64 (Int.tdiv v1 (64 : Int))))) && (decide ((IntKind.wrap .i64 (Int.tdiv v1 (64 : Int))) < (4 : Int))))
     (.need (Nat.ble ((Int.toNat (IntKind.wrap .i64 (Int.tdiv v1 (64 : Int)))) + 1) 4)
     (.need (decide ((0 : Int) ≤ (Int.tmod v1 (64 : Int))))
     (.ite ((iand .u64 (ishr .u64 (limb n (Int.toNat (IntKind.wrap .i64 (Int.tdiv v1 (64 : Int))))) (Int.tmod v1 (64 : Int))) (1 : Int)) == (1 : Int))
      (.leaf (.normal, root_st a n (IntKind.wrap .i64 (v1 - (1 : Int))) (uF ((fU (uF ((fU v2) * (fU v2)))) * (fU a)))))
      (.leaf (.normal, root_st a n (IntKind.wrap .i64 (v1 - (1 : Int))) (uF ((fU v2) * (fU v2)))))))))
     (.leaf ((.exit 0), root_st a n v1 v2))) := by kernel_rfl
theorem root_rule {σ : Type} (st : σ → KS) (Inv : σ → Prop) (μ : σ → Nat) (R : Ex → St → Prop) (hH : ∀ v, (st v).s.H.length ≤ 5) (hstep : ∀ v, Inv v → ∃ X : EnvT Try.prog, (stepT X 100 fi_curve_root [0, 1, 0, 1, 1] [2, 3, 4, 5, 6] 5 (kpat [2, 3, 4, 5] 0 31) [false, false, true, false, false] (st v)).holds (Round st Inv μ R v)) (v0 : σ) (h0 : Inv v0) : CodeR Try.prog (.loop (loopAt fi_curve_root [0, 1, 0, 1, 1])) (st v0).s R :=
  loop_rule mixed fi_curve_root [0, 1, 0, 1, 1] [2, 3, 4, 5, 6] 5 (kpat [2, 3, 4, 5] 0 31) [false, false, true, false, false] st 100 Inv μ R (loop_sub' (c := loopAt fi_curve_root [0, 1, 0, 1, 1]) (by kernel_rfl)) hH hstep v0 h0
theorem cv_blen_lt (x : Nat) : x < 2 ^ blen x := by
  unfold blen
  split
  · omega
  · exact Nat.lt_log2_self
/-- The upper bits. -/
def cvE (n k : Nat) : Nat := n / 2 ^ k
theorem cvE_next (n k : Nat) : cvE n k = 2 * cvE n (k + 1) + n / 2 ^ k % 2 := by
  have : cvE n (k + 1) = cvE n k / 2 := by unfold cvE; rw [Nat.pow_succ, Nat.div_div_eq_div_mul]
  unfold cvE at *
  omega
theorem cvE_zero (n : Nat) : cvE n 0 = n := by unfold cvE; simp
theorem cvE_top {n K : Nat} (h : blen n ≤ K) : cvE n K = 0 := Nat.div_eq_of_lt (Nat.lt_of_lt_of_le (cv_blen_lt _) (Nat.pow_le_pow_right (by decide) h))
def pwF (a : FP) (n : Nat) : FP := Fin.ofNat pP (a.val ^ n)
theorem pwF_zero (a : FP) : pwF a 0 = 1 := by unfold pwF; rw [Nat.pow_zero]; rfl
theorem pwF_val (a : FP) (n : Nat) : (pwF a n).val = a.val ^ n % pP := rfl
theorem pwF_two (a : FP) (n b : Nat) : pwF a (2 * n + b) = if b = 1 then pwF a n * pwF a n * a else if b = 0 then pwF a n * pwF a n else pwF a (2 * n + b) := by
  have h2 : a.val ^ (2 * n) % pP = (a.val ^ n % pP * (a.val ^ n % pP)) % pP := by
    rw [Nat.two_mul, Nat.pow_add, Nat.mul_mod]
  split
  · rename_i h; subst h
    apply Fin.ext
    simp only [Fin.val_mul, pwF_val]
    rw [Nat.pow_add, Nat.pow_one, Nat.mul_mod, h2, Nat.mod_eq_of_lt a.isLt]
  · split
    · rename_i h; subst h
      apply Fin.ext
      simp only [Fin.val_mul, pwF_val]
      exact h2
    · rfl
end Go.Proofs.Ytglcjmnkhmdlhaa

/- Contracts: the curve's powers (curve.root): its loop. -/
namespace Go.Proofs.Ytglcjmnkhmdlhaa
open Go Go.RowKit
theorem bit_cases (n k : Nat) : n / 2 ^ k % 2 = 1 ∨ n / 2 ^ k % 2 = 0 := by omega
theorem bitT_one {n : BitVec 256} {i : Nat} (hi : i < 256) (hb : (bitT n i == (1 : Int)) = true) : n.toNat / 2 ^ i % 2 = 1 := by
  rw [bitT_eq n hi, beq_iff_eq] at hb; omega
theorem bitT_zero {n : BitVec 256} {i : Nat} (hi : i < 256) (hb : (bitT n i == (1 : Int)) = false) : n.toNat / 2 ^ i % 2 = 0 := by
  rw [bitT_eq n hi, beq_eq_false_iff_ne] at hb
  rcases bit_cases n.toNat i with h | h
  · rw [h] at hb; exact absurd rfl hb
  · exact h
/-- The power by the upper bits. -/
def rtR (a : FP) (n k : Nat) : FP := pwF a (cvE n k)
theorem rtR_one (a : FP) {n k : Nat} (hb : n / 2 ^ k % 2 = 1) : rtR a n k = rtR a n (k + 1) * rtR a n (k + 1) * a := by
  unfold rtR
  rw [cvE_next, hb, pwF_two, if_pos rfl]
theorem rtR_zero (a : FP) {n k : Nat} (hb : n / 2 ^ k % 2 = 0) : rtR a n k = rtR a n (k + 1) * rtR a n (k + 1) := by
  unfold rtR
  rw [cvE_next, hb, pwF_two, if_neg (by decide), if_pos rfl]
theorem rtR_end (a : FP) (n : Nat) : rtR a n 0 = pwF a n := by unfold rtR; rw [cvE_zero]
theorem rtR_top (a : FP) {n K : Nat} (h : blen n ≤ K) : rtR a n K = 1 := by unfold rtR; rw [cvE_top h, pwF_zero]
theorem rootSub : subC fi_curve_root.body [0, 1, 0, 1, 1] = some (.loop (loopAt fi_curve_root [0, 1, 0, 1, 1])) := loop_sub' (c := loopAt fi_curve_root [0, 1, 0, 1, 1]) (by kernel_rfl)
theorem root_loop (a n : BitVec 256) : CodeR Try.prog (.loop (loopAt fi_curve_root [0, 1, 0, 1, 1])) (root_st a n (IntKind.wrap .i64 ((blen n.toNat : Nat) - (1 : Int))) (BitVec.ofNat 256 1)).s (fun e s' => e = .exit 0 ∧ s' = (root_st a n (-1) (uF (pwF (fU a) n.toNat))).s) := by
  have hK : blen n.toNat ≤ 256 := blen_le n.isLt
  rw [of1, ← rtR_top (fU a) (n := n.toNat) (Nat.le_refl _), ← rtR_end (fU a) n.toNat]
  generalize blen n.toNat = K at *
  rw [cv_wrap (by omega) (by omega)]
  refine root_rule (σ := Nat) (fun k => root_st a n ((k : Int) - 1) (uF (rtR (fU a) n.toNat k))) (fun k => k ≤ K) (fun k => k) _ (fun _ => Nat.le_refl 5) ?_ K (Nat.le_refl K)
  intro k hk
  refine ⟨fX5, ?_⟩
  rw [root_body]
  refine ⟨fun hc => ?_, fun hc => ?_⟩
  · have h0 : 0 < k := by simp at hc; omega
    obtain ⟨j, rfl⟩ : ∃ j, k = j + 1 := ⟨k - 1, by omega⟩
    have hj : j < 256 := by omega
    have e2 : ((j + 1 : Nat) : Int) - 1 = (j : Int) := by omega
    obtain ⟨r1, r2, r3⟩ := cv_range hj
    have hw : IntKind.wrap .i64 ((j : Int) - 1) = (j : Int) - 1 := cv_wrap (by omega) (by omega)
    rw [e2, hw]
    simp only [fU_uF]
    refine ⟨r1, r2, r3, fun hb => ?_, fun hb => ?_⟩
    · rw [← rtR_one (fU a) (bitT_one hj hb)]
      exact ⟨j, by omega, by dsimp only; omega, Sim.of_eq rfl⟩
    · rw [← rtR_zero (fU a) (bitT_zero hj hb)]
      exact ⟨j, by omega, by dsimp only; omega, Sim.of_eq rfl⟩
  · have h0 : k = 0 := by simp at hc; omega
    subst h0
    exact ⟨rfl, rfl⟩
noncomputable def rootLC (a n : BitVec 256) : LCT Try.prog := LCT.one fi_curve_root [0, 1, 0, 1, 1] _ _ (root_st a n (-1) (uF (pwF (fU a) n.toNat))) rootSub (root_loop a n)
noncomputable def rootX (a n : BitVec 256) : EnvT Try.prog := { fX5 with lcs := [rootLC a n] }
end Go.Proofs.Ytglcjmnkhmdlhaa

/- Contracts: the curve's powers (curve.root); a point out of three coordinates. -/
namespace Go.Proofs.Ytglcjmnkhmdlhaa
open Go Go.RowKit
theorem root_tree (a n : BitVec 256) : (callT ((rootX a n)) (execT ((rootX a n)) 100) 74 [.u a, .u n] [] [] 0 []).map CR.v =
    (.need true
    (.need ((IntKind.wrap .i64 ((((blen (BitVec.toNat n)) : Nat) : Int) - (1 : Int))) == (IntKind.wrap .i64 ((((blen (BitVec.toNat n)) : Nat) : Int) - (1 : Int))))
    (.need (a == a)
    (.need (n == n)
    (.need true
    (.need true
    (.need true
    (.leaf (.u (uF (pwF (fU a) (BitVec.toNat n)))))))))))) := by kernel_rfl
theorem root_ok (a n : BitVec 256) : Pure Try.prog 74 [.u a, .u n] (.u (uF (pwF (fU a) n.toNat))) := by
  refine Pure.by_tree mixed _ 100 _ _ (root_tree a n) ?_
  simp only [T.holds, beq_self_eq_true, true_and]
  exact (SameV.u rfl).r
noncomputable def c_root : Ctr Try.prog := Ctr.u2 74 (fun a n => .u (uF (pwF (fU a) n.toNat))) root_ok
noncomputable def fX6 : EnvT Try.prog := { cs := [c_times, c_plus, c_minusF, c_num_Of, c_tadd, c_tdbl, c_spread, c_num_Bits, c_root, c_num_Cmp], fis := [fi_curve_triple_flat] }
end Go.Proofs.Ytglcjmnkhmdlhaa

/- Contracts: a point out of three coordinates; the curve's modulus. -/
namespace Go.Proofs.Ytglcjmnkhmdlhaa
open Go Go.RowKit
def pU : BitVec 256 := BitVec.ofNat 256 115792089237316195423570985008687907853269984665640564039457584007908834671663
theorem flat_tree (x y z : BitVec 256) : (callT (fX6) (execT (fX6) 100) 51 [.agg [.u x, .u y, .u z]] [] [] 0 []).map CR.v =
    (.need true
    (.ite (z == (ofLimbs (0 : Int) (0 : Int) (0 : Int) (0 : Int)))
     (.leaf (.agg [(.ints .u64 4 [(0 : Int), (0 : Int), (0 : Int), (0 : Int)]), (.ints .u64 4 [(0 : Int), (0 : Int), (0 : Int), (0 : Int)]), (.bool true)]))
     (.need true
     (.leaf (.agg [(.u (uF ((fU x) * (fU (uF (pwF (fU z) 115792089237316195423570985008687907853269984665640564039457584007908834671661)))))), (.u (uF ((fU y) * (fU (uF (pwF (fU z) 115792089237316195423570985008687907853269984665640564039457584007908834671661)))))), (.bool false)]))))) := by kernel_rfl
/-- The point of a triple. -/
def flatP (t : Tr pP) : Pt pP := if t.Z = 0 then .O else .A (t.X * finv t.Z) (t.Y * finv t.Z)
theorem pwF_gen (a : FP) {n : Nat} (h : pP - 2 = n) : pwF a n = finv a := by
  unfold pwF finv
  rw [h]
theorem pwF_inv (a : FP) : pwF a 115792089237316195423570985008687907853269984665640564039457584007908834671661 = finv a := pwF_gen a (by decide +kernel)
theorem flat_zero {t : Tr pP} (h : t.Z = 0) : flatP t = .O := if_pos h
theorem flat_some {t : Tr pP} (h : t.Z ≠ 0) : flatP t = .A (t.X * finv t.Z) (t.Y * finv t.Z) := if_neg h
theorem flat_ok (t : Tr pP) : Pure Try.prog 51 [.agg [.u (uF t.X), .u (uF t.Y), .u (uF t.Z)]] (ptV (flatP t)) := by
  refine Pure.by_tree mixed _ 100 _ _ (flat_tree _ _ _) ⟨rfl, fun h => ?_, fun h => ⟨rfl, ?_⟩⟩
  · rw [of00, beq_iff_eq] at h
    rw [flat_zero (uF_inj h)]
    exact (SameV.agg (.cons (.u4 zero4) (.cons (.u4 zero4) (.cons (.bool rfl) .nil)))).r
  · rw [of00, beq_eq_false_iff_ne] at h
    rw [flat_some (fun h' => h (by rw [h'])), fU_uF, fU_uF, fU_uF, fU_uF, pwF_inv]
    exact (SameV.agg (.cons (.u rfl) (.cons (.u rfl) (.cons (.bool rfl) .nil)))).r
theorem flat_okU {x y z : BitVec 256} (h1 : ltP x = true) (h2 : ltP y = true) (h3 : ltP z = true) : Pure Try.prog 51 [.agg [.u x, .u y, .u z]] (ptV (flatP ⟨fU x, fU y, fU z⟩)) := by
  have := flat_ok ⟨fU x, fU y, fU z⟩
  simp only [uF_fU h1, uF_fU h2, uF_fU h3] at this
  exact this
noncomputable def c_flat : Ctr Try.prog := Ctr.of 51 (fun
    | [.agg [.u x, .u y, .u z]] => some ([ltP x, ltP y, ltP z], ptV (flatP ⟨fU x, fU y, fU z⟩))
    | _ => none) (by
  intro args ob v h hob
  split at h <;> simp only [Option.some.injEq, Prod.mk.injEq, reduceCtorEq] at h
  obtain ⟨rfl, rfl⟩ := h
  simp only [List.mem_cons, List.not_mem_nil, or_false, forall_eq_or_imp, forall_eq] at hob
  obtain ⟨h1, h2, h3⟩ := hob
  exact flat_okU h1 h2 h3)
noncomputable def fX7 : EnvT Try.prog := { cs := [c_times, c_plus, c_minusF, c_num_Of, c_tadd, c_tdbl, c_spread, c_num_Bits, c_root, c_num_Cmp, c_flat], fis := [] }
noncomputable def fits_st (T : Nat) (x : BitVec 256) (y : BitVec 256) (i : Int) : KS := ⟨⟨pat' [(2, (.bool false)), (5, (.sl 0 [(0, (0, 4))] 2 2)), (6, (.int .i64 (2 : Int))), (7, (.int .i64 i))] 0 16, [(some ⟨T, (.agg [(.u x), (.u y)]), false⟩)], 1⟩, kpat [2] 0 16, [false]⟩
noncomputable def fit1_st (T : Nat) (x : BitVec 256) (i : Int) : KS := ⟨⟨pat' [(2, (.bool false)), (5, (.sl 0 [(0, (0, 4))] 1 1)), (6, (.int .i64 (1 : Int))), (7, (.int .i64 i))] 0 16, [(some ⟨T, (.agg [(.u x)]), false⟩)], 1⟩, kpat [2] 0 16, [false]⟩
end Go.Proofs.Ytglcjmnkhmdlhaa

/- Contracts: sums of the curve's points. -/
namespace Go.Proofs.Ytglcjmnkhmdlhaa
open Go Go.RowKit
theorem flat_tells {t : Tr pP} {P : Pt pP} (h : Tells3 t P) : flatP t = P := by
  cases P with
  | O => exact flat_zero h.2.2
  | A x y =>
    obtain ⟨hz, hX, hY⟩ := h
    rw [flat_some hz, hX, hY]
    have hi := finv_mul cuP.hp hz
    generalize finv t.Z = i at hi ⊢
    have e1 : x * t.Z * i = x := by
      have : x * t.Z * i = x * (i * t.Z) := by grind
      rw [this, hi]; grind
    have e2 : y * t.Z * i = y := by
      have : y * t.Z * i = y * (i * t.Z) := by grind
      rw [this, hi]; grind
    rw [e1, e2]
theorem sp_tells (P : Pt pP) : Tells3 (sp P) P := by
  have := spread_tells cuP P
  cases P <;> exact this
/-- Is it a point on the curve (or nowhere, with no coordinates)? -/
def okP (x y : BitVec 256) : Bool → Bool
  | true => x == 0 && y == 0
  | false => ltP x && (ltP y && (fU y * fU y == fU x * (fU x * fU x) + 7))
def ptOf (x y : BitVec 256) : Bool → Pt pP
  | true => .O
  | false => .A (fU x) (fU y)
theorem okP_on {x y : BitVec 256} {n : Bool} (h : okP x y n = true) : (ptOf x y n).on := by
  cases n with
  | true => trivial
  | false =>
    simp only [okP, Bool.and_eq_true, beq_iff_eq] at h
    show fU y * fU y = fU x * fU x * fU x + 7
    rw [h.2.2]; grind
theorem okP_x {x y : BitVec 256} {n : Bool} (h : okP x y n = true) : ptX (ptOf x y n) = x := by
  cases n with
  | true => simp only [okP, Bool.and_eq_true, beq_iff_eq] at h; exact h.1.symm
  | false => simp only [okP, Bool.and_eq_true] at h; exact uF_fU h.1
theorem okP_y {x y : BitVec 256} {n : Bool} (h : okP x y n = true) : ptY (ptOf x y n) = y := by
  cases n with
  | true => simp only [okP, Bool.and_eq_true, beq_iff_eq] at h; exact h.2.symm
  | false => simp only [okP, Bool.and_eq_true] at h; exact uF_fU h.2.1
theorem okP_n (x y : BitVec 256) (n : Bool) : ptN (ptOf x y n) = n := by cases n <;> rfl
theorem okP_V {x y : BitVec 256} {n : Bool} (h : okP x y n = true) : AV.agg [.u x, .u y, .bool n] = ptV (ptOf x y n) := by
  unfold ptV; rw [okP_x h, okP_y h, okP_n]
theorem okP_pt {P : Pt pP} (h : P.on) : okP (ptX P) (ptY P) (ptN P) = true := by
  cases P with
  | O => rfl
  | A x y =>
    have h : y * y = x * x * x + 7 := h
    simp only [okP, ptX, ptY, ptN, ltP_uF, fU_uF, Bool.true_and, beq_iff_eq]
    rw [h]; grind
theorem ptOf_pt (P : Pt pP) : ptOf (ptX P) (ptY P) (ptN P) = P := by
  cases P with
  | O => rfl
  | A x y => simp only [ptOf, ptX, ptY, ptN, fU_uF]
theorem SameV.pt (P : Pt pP) : SameV (ptV P) (ptV P) := SameV.agg (.cons (.u rfl) (.cons (.u rfl) (.cons (.bool rfl) .nil)))
def addS3 (P Q : Pt pP) : Pt pP := flatP (Tr.add (sp P) (sp Q))

end Go.Proofs.Ytglcjmnkhmdlhaa

