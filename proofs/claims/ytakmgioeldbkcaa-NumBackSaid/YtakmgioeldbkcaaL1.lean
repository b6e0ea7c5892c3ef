/- Numbers of 256 bits and their four parts: plain arithmetic. -/
import Derived.Test.YtakmgioeldbkcaaXG
namespace Go.Proofs.Ytakmgioeldbkcaa
open Go Go.RowKit

theorem limb_lo (x : BitVec 256) (i : Nat) : 0 ≤ limb x i := by unfold limb; exact Int.natCast_nonneg _
theorem limb_hi (x : BitVec 256) (i : Nat) : limb x i < 18446744073709551616 := by
  unfold limb
  have : x.toNat / 2 ^ (64 * i) % 2 ^ 64 < 2 ^ 64 := Nat.mod_lt _ (by decide)
  omega

theorem limb0 (x : BitVec 256) : limb x 0 = ((x.toNat % 18446744073709551616 : Nat) : Int) := by simp [limb]
theorem limb1 (x : BitVec 256) : limb x 1 = ((x.toNat / 18446744073709551616 % 18446744073709551616 : Nat) : Int) := by simp [limb]
theorem limb2 (x : BitVec 256) : limb x 2 = ((x.toNat / 340282366920938463463374607431768211456 % 18446744073709551616 : Nat) : Int) := by simp [limb]
theorem limb3 (x : BitVec 256) : limb x 3 = ((x.toNat / 6277101735386680763835789423207666416102355444464034512896 % 18446744073709551616 : Nat) : Int) := by simp [limb]

/-- The parts of a number, as natural numbers. -/
theorem limbs_nat (x : BitVec 256) : ∃ a b c d : Nat, a < 18446744073709551616 ∧ b < 18446744073709551616 ∧ c < 18446744073709551616 ∧ d < 18446744073709551616 ∧ limb x 0 = a ∧ limb x 1 = b ∧ limb x 2 = c ∧ limb x 3 = d ∧
    x.toNat = a + 18446744073709551616 * (b + 18446744073709551616 * (c + 18446744073709551616 * d)) := by
  have hx := x.isLt
  refine ⟨_, _, _, _, ?_, ?_, ?_, ?_, limb0 x, limb1 x, limb2 x, limb3 x, ?_⟩ <;> omega

theorem limb_of {x : BitVec 256} {a b c d : Nat} (ha : a < 18446744073709551616) (hb : b < 18446744073709551616) (hc : c < 18446744073709551616) (hd : d < 18446744073709551616)
    (h : x.toNat = a + 18446744073709551616 * (b + 18446744073709551616 * (c + 18446744073709551616 * d))) : limb x 0 = a ∧ limb x 1 = b ∧ limb x 2 = c ∧ limb x 3 = d := by
  rw [limb0, limb1, limb2, limb3, h]
  refine ⟨?_, ?_, ?_, ?_⟩ <;> omega

/-- Parts that make a number. -/
theorem Same.u4 {l : List Int} {y : BitVec 256} (h : l = [limb y 0, limb y 1, limb y 2, limb y 3]) {x : Value} (hx : RV ρ0 (.ints .u64 4 l) x) : RV ρ0 (.u y) x := by
  simp only [RV, RV1] at hx ⊢
  subst h
  exact hx.2

/-- Four parts, as one number. -/
def nat4 (a b c d : Nat) : Nat := a + 18446744073709551616 * (b + 18446744073709551616 * (c + 18446744073709551616 * d))

theorem nat4_lt {a b c d : Nat} (ha : a < 18446744073709551616) (hb : b < 18446744073709551616) (hc : c < 18446744073709551616) (hd : d < 18446744073709551616) : nat4 a b c d < 2 ^ 256 := by
  unfold nat4; omega

theorem nat4_add {a0 a1 a2 a3 b0 b1 b2 b3 s0 s1 s2 s3 c1 c2 c3 c4 : Nat} (k0 : a0 + b0 + 0 = s0 + 18446744073709551616 * c1) (k1 : a1 + b1 + c1 = s1 + 18446744073709551616 * c2)
    (k2 : a2 + b2 + c2 = s2 + 18446744073709551616 * c3) (k3 : a3 + b3 + c3 = s3 + 18446744073709551616 * c4) : nat4 a0 a1 a2 a3 + nat4 b0 b1 b2 b3 = nat4 s0 s1 s2 s3 + 2 ^ 256 * c4 := by
  unfold nat4; omega

theorem nat4_sub {a0 a1 a2 a3 b0 b1 b2 b3 s0 s1 s2 s3 c1 c2 c3 c4 : Nat} (k0 : a0 + 18446744073709551616 * c1 = s0 + b0 + 0) (k1 : a1 + 18446744073709551616 * c2 = s1 + b1 + c1)
    (k2 : a2 + 18446744073709551616 * c3 = s2 + b2 + c2) (k3 : a3 + 18446744073709551616 * c4 = s3 + b3 + c3) : nat4 a0 a1 a2 a3 + 2 ^ 256 * c4 = nat4 s0 s1 s2 s3 + nat4 b0 b1 b2 b3 := by
  unfold nat4; omega

theorem add_step (x y c : Nat) (hx : x < 18446744073709551616) (hy : y < 18446744073709551616) (hc : c ≤ 1) :
    ∃ s d : Nat, addS x y c = s ∧ addC x y c = d ∧ s < 18446744073709551616 ∧ d ≤ 1 ∧ x + y + c = s + 18446744073709551616 * d := by
  refine ⟨_, _, rfl, rfl, ?_, ?_, ?_⟩ <;> simp only [Int.toNat_natCast] <;> omega

theorem sub_step (x y b : Nat) (hx : x < 18446744073709551616) (hy : y < 18446744073709551616) (hb : b ≤ 1) :
    ∃ s d : Nat, subS x y b = s ∧ subB x y b = d ∧ s < 18446744073709551616 ∧ d ≤ 1 ∧ x + 18446744073709551616 * d = s + y + b := by
  refine ⟨_, _, rfl, rfl, ?_, ?_, ?_⟩ <;> simp only [Int.toNat_natCast] <;> (try split) <;> omega

def ac1 (a b : BitVec 256) : Int := addC (limb a 0) (limb b 0) 0
def ac2 (a b : BitVec 256) : Int := addC (limb a 1) (limb b 1) (ac1 a b)
def ac3 (a b : BitVec 256) : Int := addC (limb a 2) (limb b 2) (ac2 a b)
def ac4 (a b : BitVec 256) : Int := addC (limb a 3) (limb b 3) (ac3 a b)
def addL (a b : BitVec 256) : List Int := [addS (limb a 0) (limb b 0) 0, addS (limb a 1) (limb b 1) (ac1 a b), addS (limb a 2) (limb b 2) (ac2 a b), addS (limb a 3) (limb b 3) (ac3 a b)]
def sb1 (a b : BitVec 256) : Int := subB (limb a 0) (limb b 0) 0
def sb2 (a b : BitVec 256) : Int := subB (limb a 1) (limb b 1) (sb1 a b)
def sb3 (a b : BitVec 256) : Int := subB (limb a 2) (limb b 2) (sb2 a b)
def sb4 (a b : BitVec 256) : Int := subB (limb a 3) (limb b 3) (sb3 a b)
def subL (a b : BitVec 256) : List Int := [subS (limb a 0) (limb b 0) 0, subS (limb a 1) (limb b 1) (sb1 a b), subS (limb a 2) (limb b 2) (sb2 a b), subS (limb a 3) (limb b 3) (sb3 a b)]

/-- Over 2^256; under 0. -/
def uover (a b : BitVec 256) : Bool := decide (2 ^ 256 ≤ a.toNat + b.toNat)
def uless (a b : BitVec 256) : Bool := decide (a.toNat < b.toNat)

theorem le_one {c : Nat} (h : c ≤ 1) : c = 0 ∨ c = 1 := by omega
theorem over_num {S c : Nat} (hc : c ≤ 1) (hS : S < 2 ^ 256) : (c : Int) = if decide (2 ^ 256 ≤ S + 2 ^ 256 * c) = true then 1 else 0 := by
  rcases le_one hc with rfl | rfl
  · rw [if_neg (by simp only [decide_eq_true_eq]; omega)]; rfl
  · rw [if_pos (by simp only [decide_eq_true_eq]; omega)]; rfl
theorem less_num {A B S c : Nat} (hc : c ≤ 1) (hS : S < 2 ^ 256) (_hA : A < 2 ^ 256) (hB : B < 2 ^ 256) (h : A + 2 ^ 256 * c = S + B) : (2 ^ 256 - B + A) % 2 ^ 256 = S ∧ (c : Int) = if decide (A < B) = true then 1 else 0 := by
  rcases le_one hc with rfl | rfl
  · refine ⟨by omega, ?_⟩
    rw [if_neg (by simp only [decide_eq_true_eq]; omega)]; rfl
  · refine ⟨by omega, ?_⟩
    rw [if_pos (by simp only [decide_eq_true_eq]; omega)]; rfl

theorem add_plain (a b : BitVec 256) : (ac1 a b).toNat ≤ 1 ∧ (ac2 a b).toNat ≤ 1 ∧ (ac3 a b).toNat ≤ 1 ∧ addL a b = [limb (a + b) 0, limb (a + b) 1, limb (a + b) 2, limb (a + b) 3] ∧
    ac4 a b = if uover a b then 1 else 0 := by
  obtain ⟨a0, a1, a2, a3, h0, h1, h2, h3, _, _, _, _, ha⟩ := limbs_nat a
  obtain ⟨b0, b1, b2, b3, g0, g1, g2, g3, _, _, _, _, hb⟩ := limbs_nat b
  obtain ⟨s0, c1, p0, q0, i0, j0, k0⟩ := add_step a0 b0 0 h0 g0 (Nat.zero_le 1)
  obtain ⟨s1, c2, p1, q1, i1, j1, k1⟩ := add_step a1 b1 c1 h1 g1 j0
  obtain ⟨s2, c3, p2, q2, i2, j2, k2⟩ := add_step a2 b2 c2 h2 g2 j1
  obtain ⟨s3, c4, p3, q3, i3, j3, k3⟩ := add_step a3 b3 c3 h3 g3 j2
  have q0 : addC (↑a0) (↑b0) 0 = c1 := q0
  have p0 : addS (↑a0) (↑b0) 0 = s0 := p0
  have hsum := nat4_add k0 k1 k2 k3
  have hlt := nat4_lt i0 i1 i2 i3
  have ha : a.toNat = nat4 a0 a1 a2 a3 := ha
  have hb : b.toNat = nat4 b0 b1 b2 b3 := hb
  clear k0 k1 k2 k3
  have hs : (a + b).toNat = nat4 s0 s1 s2 s3 := by
    rw [BitVec.toNat_add, ha, hb, hsum, Nat.add_mul_mod_self_left, Nat.mod_eq_of_lt hlt]
  obtain ⟨l0, l1, l2, l3⟩ := limb_of i0 i1 i2 i3 hs
  obtain ⟨e0, e1, e2, e3⟩ := limb_of h0 h1 h2 h3 ha
  obtain ⟨f0, f1, f2, f3⟩ := limb_of g0 g1 g2 g3 hb
  simp only [ac1, ac2, ac3, ac4, addL, e0, e1, e2, e3, f0, f1, f2, f3, q0, q1, q2, q3, p0, p1, p2, p3, l0, l1, l2, l3, Int.toNat_natCast]
  refine ⟨j0, j1, j2, trivial, ?_⟩
  unfold uover
  rw [ha, hb, hsum]
  exact over_num j3 hlt

theorem sub_plain (a b : BitVec 256) : (sb1 a b).toNat ≤ 1 ∧ (sb2 a b).toNat ≤ 1 ∧ (sb3 a b).toNat ≤ 1 ∧ subL a b = [limb (a - b) 0, limb (a - b) 1, limb (a - b) 2, limb (a - b) 3] ∧
    sb4 a b = if uless a b then 1 else 0 := by
  obtain ⟨a0, a1, a2, a3, h0, h1, h2, h3, _, _, _, _, ha⟩ := limbs_nat a
  obtain ⟨b0, b1, b2, b3, g0, g1, g2, g3, _, _, _, _, hb⟩ := limbs_nat b
  obtain ⟨s0, c1, p0, q0, i0, j0, k0⟩ := sub_step a0 b0 0 h0 g0 (Nat.zero_le 1)
  obtain ⟨s1, c2, p1, q1, i1, j1, k1⟩ := sub_step a1 b1 c1 h1 g1 j0
  obtain ⟨s2, c3, p2, q2, i2, j2, k2⟩ := sub_step a2 b2 c2 h2 g2 j1
  obtain ⟨s3, c4, p3, q3, i3, j3, k3⟩ := sub_step a3 b3 c3 h3 g3 j2
  have q0 : subB (↑a0) (↑b0) 0 = c1 := q0
  have p0 : subS (↑a0) (↑b0) 0 = s0 := p0
  have hsum := nat4_sub k0 k1 k2 k3
  have hlt := nat4_lt i0 i1 i2 i3
  have ha : a.toNat = nat4 a0 a1 a2 a3 := ha
  have hb : b.toNat = nat4 b0 b1 b2 b3 := hb
  have hal := nat4_lt h0 h1 h2 h3
  have hbl := nat4_lt g0 g1 g2 g3
  clear k0 k1 k2 k3
  obtain ⟨r1, r2⟩ := less_num j3 hlt hal hbl hsum
  have hs : (a - b).toNat = nat4 s0 s1 s2 s3 := by
    rw [BitVec.toNat_sub, ha, hb]; exact r1
  obtain ⟨l0, l1, l2, l3⟩ := limb_of i0 i1 i2 i3 hs
  obtain ⟨e0, e1, e2, e3⟩ := limb_of h0 h1 h2 h3 ha
  obtain ⟨f0, f1, f2, f3⟩ := limb_of g0 g1 g2 g3 hb
  simp only [sb1, sb2, sb3, sb4, subL, e0, e1, e2, e3, f0, f1, f2, f3, q0, q1, q2, q3, p0, p1, p2, p3, l0, l1, l2, l3, Int.toNat_natCast]
  refine ⟨j0, j1, j2, trivial, ?_⟩
  unfold uless
  rw [ha, hb]
  exact r2
end Go.Proofs.Ytakmgioeldbkcaa
