/- Texts of this claim, one behind the other. -/
import Derived.Test.YtglcjmnkhmdlhaaK4

/- Contracts: a product of two numbers of 64 bits (bits.Mul64). -/
namespace Go.Proofs.Ytglcjmnkhmdlhaa
open Go Go.RowKit

/-- Slots of a function, written otherwise, region by region. -/
def fixL (f : Nat) : List (Nat × List (Nat × AV)) → Nat → Nat → List (Nat × AV)
  | [], _, _ => []
  | (r, l) :: m, f', r' => match Nat.beq f f' && Nat.beq r r' with
    | true => l
    | false => fixL f m f' r'
def u64N (n : Nat) : AV := .int .u64 (n : Int)

theorem iand_low (x : Nat) (h : x < 18446744073709551616) : iand .u64 (x : Int) 4294967295 = ((x % 4294967296 : Nat) : Int) := by
  have h1 : (x : Int) = ((BitVec.ofNat 64 x).toNat : Int) := by rw [BitVec.toNat_ofNat]; omega
  have h2 : (4294967295 : Int) = ((4294967295#64).toNat : Int) := rfl
  rw [h1, h2, iand_bv, BitVec.toNat_and, BitVec.toNat_ofNat]
  have h3 : (4294967295#64).toNat = 2 ^ 32 - 1 := rfl
  rw [h3, Nat.and_two_pow_sub_one_eq_mod]
  omega
theorem ishr_nat (x k : Nat) (hk : k ≤ 64) : ishr .u64 (x : Int) (k : Int) = ((x / 2 ^ k : Nat) : Int) := sh_nat true k hk x
theorem ishr_32 (x : Nat) : ishr .u64 (x : Int) 32 = ((x / 4294967296 : Nat) : Int) := ishr_nat x 32 (by omega)
theorem wrap_id {n : Nat} (h : n < 18446744073709551616) : IntKind.u64.wrap (n : Int) = n := by
  rw [wrap_nat, Nat.mod_eq_of_lt h]
theorem wrap_add {m n : Nat} (h : m + n < 18446744073709551616) : IntKind.u64.wrap ((m : Int) + (n : Int)) = ((m + n : Nat) : Int) := by
  have : (m : Int) + (n : Int) = ((m + n : Nat) : Int) := by omega
  rw [this, wrap_id h]
theorem wrap_mul {m n : Nat} (h : m * n < 18446744073709551616) : IntKind.u64.wrap ((m : Int) * (n : Int)) = ((m * n : Nat) : Int) := by
  have : (m : Int) * (n : Int) = ((m * n : Nat) : Int) := by simp
  rw [this, wrap_id h]

def m64T (x0 x1 y0 : Nat) : Nat := x1 * y0 + x0 * y0 / 4294967296
noncomputable def XM1 (x0 x1 y0 y1 hi lo : Nat) : EnvX Try.prog := { cs := [], fis := [fi_math_bits_Mul64], lcs := [], fix := fixL 55 [(1, [(6, u64N x0)]), (2, [(7, u64N x1)]), (3, [(8, u64N y0)]), (4, [(9, u64N y1)]), (5, [(10, u64N (x0 * y0))]),
  (6, [(11, u64N (m64T x0 x1 y0))]), (7, [(12, u64N (m64T x0 x1 y0 % 4294967296))]), (8, [(13, u64N (m64T x0 x1 y0 / 4294967296))]), (9, [(12, u64N (m64T x0 x1 y0 % 4294967296 + x0 * y1))]), (10, [(4, u64N hi)]), (11, [(5, u64N lo)])] }
theorem mul64_run (x y x0 x1 y0 y1 hi lo : Nat) : (callX (XM1 x0 x1 y0 y1 hi lo) (exec (XM1 x0 x1 y0 y1 hi lo) 100) 55 [.int .u64 x, .int .u64 y] [] 0).map (fun r => (r.1, r.2.1)) =
    some ([iand .u64 x 4294967295 == (x0 : Int), ishr .u64 x 32 == (x1 : Int), iand .u64 y 4294967295 == (y0 : Int), ishr .u64 y 32 == (y1 : Int), IntKind.u64.wrap ((x0 : Int) * (y0 : Int)) == ((x0 * y0 : Nat) : Int),
      IntKind.u64.wrap (IntKind.u64.wrap ((x1 : Int) * (y0 : Int)) + ishr .u64 ((x0 * y0 : Nat) : Int) 32) == ((m64T x0 x1 y0 : Nat) : Int), iand .u64 ((m64T x0 x1 y0 : Nat) : Int) 4294967295 == ((m64T x0 x1 y0 % 4294967296 : Nat) : Int),
      ishr .u64 ((m64T x0 x1 y0 : Nat) : Int) 32 == ((m64T x0 x1 y0 / 4294967296 : Nat) : Int), IntKind.u64.wrap (((m64T x0 x1 y0 % 4294967296 : Nat) : Int) + IntKind.u64.wrap ((x0 : Int) * (y1 : Int))) == ((m64T x0 x1 y0 % 4294967296 + x0 * y1 : Nat) : Int),
      IntKind.u64.wrap (IntKind.u64.wrap (IntKind.u64.wrap ((x1 : Int) * (y1 : Int)) + ((m64T x0 x1 y0 / 4294967296 : Nat) : Int)) + ishr .u64 ((m64T x0 x1 y0 % 4294967296 + x0 * y1 : Nat) : Int) 32) == (hi : Int), IntKind.u64.wrap ((x : Int) * (y : Int)) == (lo : Int)],
      .tup [.int .u64 hi, .int .u64 lo]) := by kernel_rfl

theorem four_products (x0 x1 y0 y1 : Nat) : (x1 * 4294967296 + x0) * (y1 * 4294967296 + y0) = x1 * y1 * 18446744073709551616 + (x1 * y0 + x0 * y1) * 4294967296 + x0 * y0 := by
  rw [Nat.add_mul, Nat.mul_add, Nat.mul_add, Nat.mul_mul_mul_comm, Nat.mul_right_comm x1 4294967296 y0, ← Nat.mul_assoc x0 y1, Nat.add_mul]
  omega
theorem small_product {a b : Nat} (ha : a < 4294967296) (hb : b < 4294967296) : a * b ≤ 18446744065119617025 := by
  have : a * b ≤ 4294967295 * 4294967295 := Nat.mul_le_mul (by omega) (by omega)
  omega
theorem hi_nat {p00 p10 p01 p11 : Nat} : (p11 * 18446744073709551616 + (p10 + p01) * 4294967296 + p00) / 18446744073709551616 = p11 + (p10 + p00 / 4294967296) / 4294967296 + ((p10 + p00 / 4294967296) % 4294967296 + p01) / 4294967296 := by omega
def mulHi (x y : Nat) : Nat := x * y / 18446744073709551616
def mulLo (x y : Nat) : Nat := x * y % 18446744073709551616
theorem mul64_ok (x y : Nat) (hx : x < 18446744073709551616) (hy : y < 18446744073709551616) : Pure Try.prog 55 [.int .u64 x, .int .u64 y] (.tup [.int .u64 (mulHi x y), .int .u64 (mulLo x y)]) := by
  obtain ⟨x0, hx0⟩ : ∃ z, z = x % 4294967296 := ⟨_, rfl⟩
  obtain ⟨x1, hx1⟩ : ∃ z, z = x / 4294967296 := ⟨_, rfl⟩
  obtain ⟨y0, hy0⟩ : ∃ z, z = y % 4294967296 := ⟨_, rfl⟩
  obtain ⟨y1, hy1⟩ : ∃ z, z = y / 4294967296 := ⟨_, rfl⟩
  have b0 : x0 < 4294967296 := by omega
  have b1 : x1 < 4294967296 := by omega
  have b2 : y0 < 4294967296 := by omega
  have b3 : y1 < 4294967296 := by omega
  have q00 := small_product b0 b2
  have q10 := small_product b1 b2
  have q01 := small_product b0 b3
  have q11 := small_product b1 b3
  have hxy : x * y = x1 * y1 * 18446744073709551616 + (x1 * y0 + x0 * y1) * 4294967296 + x0 * y0 := by
    rw [← four_products, show x1 * 4294967296 + x0 = x by omega, show y1 * 4294967296 + y0 = y by omega]
  have hhi : mulHi x y = x1 * y1 + m64T x0 x1 y0 / 4294967296 + (m64T x0 x1 y0 % 4294967296 + x0 * y1) / 4294967296 := by
    unfold mulHi m64T
    rw [hxy]; exact hi_nat
  have hlt : mulHi x y < 18446744073709551616 := by
    unfold mulHi
    rw [Nat.div_lt_iff_lt_mul (by omega)]
    have : x * y ≤ 18446744073709551615 * 18446744073709551615 := Nat.mul_le_mul (by omega) (by omega)
    omega
  have hT : m64T x0 x1 y0 < 18446744073709551616 := by unfold m64T; omega
  refine Pure.by_run mixed _ 100 _ _ (mul64_run x y x0 x1 y0 y1 (mulHi x y) (mulLo x y)) ?_ (SameR.tup2 (SameV.int rfl) (SameV.int rfl))
  have o1 := iand_low x hx
  have o2 := iand_low y hy
  have o3 := iand_low _ hT
  have o4 : IntKind.u64.wrap (IntKind.u64.wrap ((x1 : Int) * (y0 : Int)) + ishr .u64 ((x0 * y0 : Nat) : Int) 32) = ((m64T x0 x1 y0 : Nat) : Int) := by
    rw [wrap_mul (by omega), ishr_32, wrap_add (by unfold m64T at hT; omega)]; rfl
  have o5 : IntKind.u64.wrap (((m64T x0 x1 y0 % 4294967296 : Nat) : Int) + IntKind.u64.wrap ((x0 : Int) * (y1 : Int))) = ((m64T x0 x1 y0 % 4294967296 + x0 * y1 : Nat) : Int) := by
    rw [wrap_mul (by omega), wrap_add (by omega)]
  have o6 : IntKind.u64.wrap (IntKind.u64.wrap (IntKind.u64.wrap ((x1 : Int) * (y1 : Int)) + ((m64T x0 x1 y0 / 4294967296 : Nat) : Int)) + ishr .u64 ((m64T x0 x1 y0 % 4294967296 + x0 * y1 : Nat) : Int) 32) = (mulHi x y : Int) := by
    rw [wrap_mul (by omega), wrap_add (by omega), ishr_32, wrap_add (by omega), hhi]
  have o7 : IntKind.u64.wrap ((x : Int) * (y : Int)) = (mulLo x y : Int) := by
    have : (x : Int) * (y : Int) = ((x * y : Nat) : Int) := by simp
    rw [this, wrap_nat]; rfl
  have o8 : IntKind.u64.wrap ((x0 : Int) * (y0 : Int)) = ((x0 * y0 : Nat) : Int) := wrap_mul (by omega)
  rw [ishr_32] at o4 o6
  intro b hb
  simp only [o1, o2, o3, o4, o5, o6, o7, o8, ishr_32, ← hx0, ← hx1, ← hy0, ← hy1, beq_self_eq_true, List.mem_cons, List.not_mem_nil, or_false, or_self] at hb
  exact hb
noncomputable def c_mul64 : Ctr Try.prog := Ctr.of 55 (fun | [.int .u64 x, .int .u64 y] => some ([inR x, inR y], .tup [.int .u64 (mulHi x.toNat y.toNat), .int .u64 (mulLo x.toNat y.toNat)]) | _ => none) (by
  intro args ob v h hob
  split at h <;> simp at h
  obtain ⟨rfl, rfl⟩ := h
  rename_i x y
  have h1 := hob (inR x) (by simp)
  have h2 := hob (inR y) (by simp)
  simp only [inR, Bool.and_eq_true, decide_eq_true_eq] at h1 h2
  obtain ⟨m, rfl⟩ := Int.eq_ofNat_of_zero_le h1.1
  obtain ⟨n, rfl⟩ := Int.eq_ofNat_of_zero_le h2.1
  exact mul64_ok m n (by omega) (by omega))
end Go.Proofs.Ytglcjmnkhmdlhaa

/- Products of numbers of four parts, part by part. -/
namespace Go.Proofs.Ytglcjmnkhmdlhaa
open Go Go.RowKit

/-- The number of which these are the parts, the lowest first. -/
def val (B : Nat) : List Nat → Nat
  | [] => 0
  | d :: l => d + B * val B l
theorem val_set (B : Nat) : ∀ (l : List Nat) (j v : Nat), j < l.length → val B (l.set j v) + l.getD j 0 * B ^ j = val B l + v * B ^ j
  | [], j, v, h => by simp at h
  | d :: l, 0, v, _ => by simp [val]; omega
  | d :: l, j + 1, v, h => by
    have ih := val_set B l j v (by simpa using h)
    simp only [List.set_cons_succ, List.getD_cons_succ, val, Nat.pow_succ]
    have h1 : l.getD j 0 * (B ^ j * B) = B * (l.getD j 0 * B ^ j) := by rw [← Nat.mul_assoc, Nat.mul_comm]
    have h2 : v * (B ^ j * B) = B * (v * B ^ j) := by rw [← Nat.mul_assoc, Nat.mul_comm]
    rw [h1, h2, Nat.add_assoc, ← Nat.mul_add, ih, Nat.mul_add, ← Nat.add_assoc]
theorem val_append (B : Nat) : ∀ (l m : List Nat), val B (l ++ m) = val B l + B ^ l.length * val B m
  | [], m => by simp [val]
  | d :: l, m => by
    simp only [List.cons_append, val, val_append B l m, List.length_cons, Nat.pow_succ, Nat.mul_add]
    rw [Nat.mul_comm (B ^ l.length) B, Nat.mul_assoc, Nat.add_assoc]
theorem val_lt (B : Nat) : ∀ (l : List Nat), (∀ d ∈ l, d < B) → val B l < B ^ l.length
  | [], _ => by simp [val]
  | d :: l, h => by
    have h1 := val_lt B l (fun e he => h e (by simp [he]))
    have h2 := h d (by simp)
    simp only [val, List.length_cons, Nat.pow_succ]
    have h3 : B * (val B l + 1) ≤ B * B ^ l.length := Nat.mul_le_mul_left _ h1
    rw [Nat.mul_add, Nat.mul_one] at h3
    rw [Nat.mul_comm (B ^ l.length)]
    omega

def b64 : Nat := 18446744073709551616
/-- A part of a number. -/
def dig (b k : Nat) : Nat := b / b64 ^ k % b64
theorem dig_lt (b k : Nat) : dig b k < b64 := Nat.mod_lt _ (by decide)
theorem mod_succ (b k : Nat) : b % b64 ^ (k + 1) = b % b64 ^ k + dig b k * b64 ^ k := by
  unfold dig
  rw [Nat.pow_succ, Nat.mod_mul, Nat.mul_comm (b64 ^ k)]

/-- One part times a number, added from a place on: 'k' steps of it. -/
def rowM (x b i : Nat) (l : List Nat) : Nat → List Nat × Nat
  | 0 => (l, 0)
  | k + 1 => let r := rowM x b i l k
    let s := x * dig b k + r.1.getD (i + k) 0 + r.2
    (r.1.set (i + k) (s % b64), s / b64)

theorem getD_lt {l : List Nat} {B : Nat} (h : ∀ d ∈ l, d < B) (hB : 0 < B) (j : Nat) : l.getD j 0 < B := by
  rw [List.getD]
  cases hj : l[j]? with
  | none => exact hB
  | some d => exact h d (List.mem_of_getElem? hj)
theorem set_all {l : List Nat} {B v j : Nat} (h : ∀ d ∈ l, d < B) (hv : v < B) : ∀ d ∈ l.set j v, d < B := by
  intro d hd
  rcases List.mem_or_eq_of_mem_set hd with h1 | rfl
  · exact h d h1
  · exact hv
theorem getD_set_ne {l : List Nat} {j m v : Nat} (h : j ≠ m) : (l.set j v).getD m 0 = l.getD m 0 := by
  rw [List.getD, List.getD, List.getElem?_set_ne h]

theorem mac_lt {x y o c : Nat} (hx : x < b64) (hy : y < b64) (ho : o < b64) (hc : c < b64) : (x * y + o + c) / b64 < b64 := by
  have h : x * y ≤ 18446744073709551615 * 18446744073709551615 := Nat.mul_le_mul (by unfold b64 at hx; omega) (by unfold b64 at hy; omega)
  rw [Nat.div_lt_iff_lt_mul (by decide)]
  unfold b64 at *
  omega

theorem rowM_ok {x b i : Nat} {l : List Nat} (hx : x < b64) (hl : l.length = 8) (hd : ∀ d ∈ l, d < b64) : ∀ k, i + k ≤ 8 →
    (rowM x b i l k).1.length = 8 ∧ (∀ d ∈ (rowM x b i l k).1, d < b64) ∧ (rowM x b i l k).2 < b64 ∧
      val b64 (rowM x b i l k).1 + (rowM x b i l k).2 * b64 ^ (i + k) = val b64 l + x * (b % b64 ^ k) * b64 ^ i ∧ ∀ j, i + k ≤ j → (rowM x b i l k).1.getD j 0 = l.getD j 0
  | 0, _ => by
    refine ⟨hl, hd, by simp [rowM, b64], ?_, fun j _ => rfl⟩
    simp [rowM, Nat.mod_one]
  | k + 1, hk => by
    obtain ⟨h1, h2, h3, h4, h5⟩ := rowM_ok (b := b) (i := i) hx hl hd k (by omega)
    have ho := getD_lt h2 (by decide) (i + k)
    have hs := mac_lt hx (dig_lt b k) ho h3
    obtain ⟨o, ho'⟩ : ∃ o, o = (rowM x b i l k).1.getD (i + k) 0 := ⟨_, rfl⟩
    obtain ⟨s, hs'⟩ : ∃ s, s = x * dig b k + o + (rowM x b i l k).2 := ⟨_, rfl⟩
    have e1 : (rowM x b i l (k + 1)).1 = (rowM x b i l k).1.set (i + k) (s % b64) := by rw [hs', ho']; rfl
    have e2 : (rowM x b i l (k + 1)).2 = s / b64 := by rw [hs', ho']; rfl
    rw [e1, e2]
    refine ⟨by simp [h1], set_all h2 (Nat.mod_lt _ (by decide)), by rw [hs', ho']; exact hs, ?_, ?_⟩
    · have hv := val_set b64 (rowM x b i l k).1 (i + k) (s % b64) (by omega)
      rw [← ho'] at hv
      obtain ⟨p, hp⟩ : ∃ p, p = b64 ^ (i + k) := ⟨_, rfl⟩
      have hp1 : b64 ^ (i + (k + 1)) = p * b64 := by rw [hp, ← Nat.add_assoc, Nat.pow_succ]
      rw [← hp] at hv h4
      have hsum : s % b64 * p + s / b64 * (p * b64) = s * p := by
        have := Nat.div_add_mod s b64
        calc s % b64 * p + s / b64 * (p * b64) = (b64 * (s / b64) + s % b64) * p := by
              rw [Nat.add_mul, Nat.mul_comm p b64, ← Nat.mul_assoc, Nat.mul_comm (s / b64) b64]; omega
          _ = s * p := by rw [this]
      have hsp : s * p = x * dig b k * p + o * p + (rowM x b i l k).2 * p := by rw [hs', Nat.add_mul, Nat.add_mul]
      have hx2 : x * (b % b64 ^ (k + 1)) * b64 ^ i = x * (b % b64 ^ k) * b64 ^ i + x * dig b k * p := by
        rw [mod_succ, Nat.mul_add, Nat.add_mul, hp, Nat.pow_add, Nat.mul_comm (b64 ^ i)]
        simp only [Nat.mul_assoc]
      rw [hp1, hx2]
      omega
    · intro j hj
      rw [getD_set_ne (by omega)]
      exact h5 j (by omega)

def outM (a b : Nat) : Nat → List Nat
  | 0 => List.replicate 8 0
  | i + 1 => let r := rowM (dig a i) b i (outM a b i) 4
    r.1.set (i + 4) r.2
theorem outM_ok {a b : Nat} (hb : b < b64 ^ 4) : ∀ i, i ≤ 4 → (outM a b i).length = 8 ∧ (∀ d ∈ outM a b i, d < b64) ∧ val b64 (outM a b i) = (a % b64 ^ i) * b ∧ ∀ j, i + 4 ≤ j → (outM a b i).getD j 0 = 0
  | 0, _ => by
    refine ⟨rfl, by simp [outM, b64], by simp [outM, val, Nat.mod_one, List.replicate], ?_⟩
    intro j _
    show (List.replicate 8 0).getD j 0 = 0
    rw [List.getD, List.getElem?_replicate]
    split <;> rfl
  | i + 1, hi => by
    obtain ⟨h1, h2, h3, h4⟩ := outM_ok (a := a) hb i (by omega)
    obtain ⟨g1, g2, g3, g4, g5⟩ := rowM_ok (b := b) (i := i) (dig_lt a i) h1 h2 4 (by omega)
    have e : outM a b (i + 1) = (rowM (dig a i) b i (outM a b i) 4).1.set (i + 4) (rowM (dig a i) b i (outM a b i) 4).2 := rfl
    rw [e]
    refine ⟨by simp [g1], set_all g2 g3, ?_, ?_⟩
    · have hv := val_set b64 (rowM (dig a i) b i (outM a b i) 4).1 (i + 4) (rowM (dig a i) b i (outM a b i) 4).2 (by omega)
      rw [g5 (i + 4) (Nat.le_refl _), h4 (i + 4) (Nat.le_refl _), Nat.zero_mul, Nat.add_zero, g4, Nat.mod_eq_of_lt hb, h3] at hv
      rw [hv, mod_succ, Nat.add_mul, Nat.mul_right_comm]
    · intro j hj
      rw [getD_set_ne (by omega), g5 j (by omega)]
      exact h4 j (by omega)
theorem outM_val {a b : Nat} (ha : a < b64 ^ 4) (hb : b < b64 ^ 4) : val b64 (outM a b 4) = a * b := by
  rw [(outM_ok hb 4 (Nat.le_refl 4)).2.2.1, Nat.mod_eq_of_lt ha]
end Go.Proofs.Ytglcjmnkhmdlhaa

/- Contracts: products (mul.Wide, mul.Mul). -/
namespace Go.Proofs.Ytglcjmnkhmdlhaa
open Go Go.RowKit

def ofN (l : List Nat) : List Int := l.map Int.ofNat
def wIn : List Nat := [0, 1, 0, 1, 1, 0, 0, 1, 1, 0, 0, 1, 0, 1, 1]
def wOut : List Nat := [0, 1, 0, 1, 1]
def wH (a b : BitVec 256) (l : List Int) : Heap := [some ⟨24, .u a, true⟩, some ⟨24, .u b, true⟩, some ⟨24, .ints .u64 4 [0, 0, 0, 0], true⟩, some ⟨24, .ints .u64 4 [0, 0, 0, 0], true⟩, some ⟨96, .ints .u64 8 l, true⟩]
def wBase (a : BitVec 256) (i : Int) : List (Nat × AV) := [(2, .ptr 0 []), (3, .ptr 1 []), (4, .ptr 2 []), (5, .ptr 3 []), (6, .ptr 4 []), (16, .u a), (17, .int .i64 i)]
noncomputable def XW (d : Bool) : EnvX Try.prog := { cs := [cAdd64, c_mul64], fis := [], lcs := [], br := brL [(999999, 7, d), (999999, 3, d)], hint := symAt 999999 [8, 12, 15, 4] }

def macO (x y : Nat) (o c : Int) : Int := addS o (addS (mulLo x y) c 0) 0
def macC (x y : Nat) (o c : Int) : Int := IntKind.u64.wrap (IntKind.u64.wrap ((mulHi x y : Int) + addC (mulLo x y) c 0) + addC o (addS (mulLo x y) c 0) 0)
theorem mac_nat {p o c : Nat} (ho : o < 18446744073709551616) (hc : c < 18446744073709551616) (hp : p ≤ 340282366920938463426481119284349108225) :
    (o + (p % 18446744073709551616 + c + 0) % 18446744073709551616 + 0) % 18446744073709551616 = (p + o + c) % 18446744073709551616 ∧
    p / 18446744073709551616 + (p % 18446744073709551616 + c + 0) / 18446744073709551616 + (o + (p % 18446744073709551616 + c + 0) % 18446744073709551616 + 0) / 18446744073709551616 = (p + o + c) / 18446744073709551616 ∧
    (p + o + c) / 18446744073709551616 < 18446744073709551616 := by omega
theorem mac_int {x y o c : Nat} (hx : x < b64) (hy : y < b64) (ho : o < b64) (hc : c < b64) : macO x y (o : Int) (c : Int) = (((x * y + o + c) % b64 : Nat) : Int) ∧ macC x y (o : Int) (c : Int) = (((x * y + o + c) / b64 : Nat) : Int) := by
  have hp : x * y ≤ 18446744073709551615 * 18446744073709551615 := Nat.mul_le_mul (by unfold b64 at hx; omega) (by unfold b64 at hy; omega)
  obtain ⟨h1, h2, h3⟩ := mac_nat (p := x * y) ho hc (by omega)
  constructor
  · unfold macO addS mulLo b64
    simp only [Int.toNat_natCast, Int.toNat_zero]
    rw [h1]
  · unfold macC addS addC mulLo mulHi b64
    simp only [Int.toNat_natCast, Int.toNat_zero]
    rw [wrap_add (by omega), wrap_add (by omega), h2]
theorem ofN_getD (l : List Nat) (j : Nat) : (ofN l).getD j 0 = ((l.getD j 0 : Nat) : Int) := by
  unfold ofN
  rw [List.getD, List.getD, List.getElem?_map]
  cases l[j]? <;> rfl
theorem ofN_set (l : List Nat) (j v : Nat) : (ofN l).set j (v : Int) = ofN (l.set j v) := by
  unfold ofN
  rw [List.map_set]
  rfl
theorem limb_dig (b : BitVec 256) (k : Nat) : limb b k = ((dig b.toNat k : Nat) : Int) := by
  unfold limb dig b64
  rw [Nat.pow_mul]

noncomputable def XWO (l : List (LC Try.prog)) : EnvX Try.prog := { cs := [cAdd64, c_mul64], fis := [], lcs := l, br := brL [(999999, 3, true)], hint := symAt 999999 [15, 4] }

theorem u_lt (b : BitVec 256) : b.toNat < b64 ^ 4 := Nat.lt_of_lt_of_le b.isLt (by decide)

noncomputable def XWF (a b : BitVec 256) : EnvX Try.prog := { cs := [], fis := [], lcs := [] }
def wideHi (a b : BitVec 256) : BitVec 256 := BitVec.ofNat 256 (a.toNat * b.toNat / 2 ^ 256)
def wideOut (a b : BitVec 256) : AV := .tup [.u (wideHi a b), .u (a * b)]
theorem wide_parts (l : List Nat) (n : Nat) (hl : l.length = 8) (hd : ∀ d ∈ l, d < b64) (hv : val b64 l = n) (x y : BitVec 256) (hx : x.toNat = n / 2 ^ 256) (hy : y.toNat = n % 2 ^ 256) :
    ((ofN l).drop 4).take 4 = [limb x 0, limb x 1, limb x 2, limb x 3] ∧ ((ofN l).drop 0).take 4 = [limb y 0, limb y 1, limb y 2, limb y 3] := by
  match l, hl with
  | [l0, l1, l2, l3, l4, l5, l6, l7], _ =>
    have h0 : l0 < 18446744073709551616 := hd l0 (by simp)
    have h1 : l1 < 18446744073709551616 := hd l1 (by simp)
    have h2 : l2 < 18446744073709551616 := hd l2 (by simp)
    have h3 : l3 < 18446744073709551616 := hd l3 (by simp)
    have h4 : l4 < 18446744073709551616 := hd l4 (by simp)
    have h5 : l5 < 18446744073709551616 := hd l5 (by simp)
    have h6 : l6 < 18446744073709551616 := hd l6 (by simp)
    have h7 : l7 < 18446744073709551616 := hd l7 (by simp)
    have hv2 : nat4 l0 l1 l2 l3 + 2 ^ 256 * nat4 l4 l5 l6 l7 = n := by
      rw [← hv]
      simp only [val, b64, nat4]
      omega
    have hlt := nat4_lt h0 h1 h2 h3
    have ex : x.toNat = nat4 l4 l5 l6 l7 := by rw [hx]; omega
    have ey : y.toNat = nat4 l0 l1 l2 l3 := by rw [hy]; omega
    obtain ⟨a0, a1, a2, a3⟩ := limb_of h4 h5 h6 h7 ex
    obtain ⟨c0, c1, c2, c3⟩ := limb_of h0 h1 h2 h3 ey
    rw [a0, a1, a2, a3, c0, c1, c2, c3]
    exact ⟨rfl, rfl⟩
theorem wide_hi_nat (a b : BitVec 256) : (wideHi a b).toNat = a.toNat * b.toNat / 2 ^ 256 := by
  unfold wideHi
  rw [BitVec.toNat_ofNat, Nat.mod_eq_of_lt]
  rw [Nat.div_lt_iff_lt_mul (by decide)]
  exact Nat.mul_lt_mul_of_lt_of_lt a.isLt b.isLt
noncomputable def XMul : EnvX Try.prog := { cs := [], fis := [], lcs := [] }
end Go.Proofs.Ytglcjmnkhmdlhaa

/- Contracts: products, by the document (truceref02.Wide, Mul). -/
namespace Go.Proofs.Ytglcjmnkhmdlhaa
open Go Go.RowKit

def rIn : List Nat := [0, 1, 0, 1, 0, 0, 1, 0, 0, 1, 0, 1, 1]
def rOut : List Nat := [0, 1, 0, 1, 1]
def rBase (i : Int) : List (Nat × AV) := [(2, .ptr 0 []), (3, .ptr 1 []), (4, .ptr 2 []), (5, .ptr 3 []), (6, .ptr 4 []), (7, .int .i64 i)]
noncomputable def rSt (a b : BitVec 256) (i : Int) (l : List Int) : St := ⟨pat fi_truceref02_Wide.fn.ntmps 0 (rBase i), wH a b l, 5⟩
noncomputable def riSt (a b : BitVec 256) (i c k : Int) (l : List Int) : St := ⟨pat fi_truceref02_Wide.fn.ntmps 0 (rBase i ++ [(8, .int .u64 c), (9, .int .i64 k)]), wH a b l, 5⟩
noncomputable def XR1 (d : Bool) : EnvX Try.prog := { cs := [cAdd64, c_mul64], fis := [fi_truceref02_Wide], lcs := [], br := brL [(54, 7, d), (54, 3, d)], hint := symAt 54 [9, 11, 12, 14] }

theorem ri_step (a b : BitVec 256) (i c k : Nat) (l : List Int) : stepX (XR1 true) 100 fi_truceref02_Wide rIn [2, 3, 4, 5, 6, 7, 8, 9] 5 (riSt a b i c k l) =
    some ([decide ((k : Int) < 4) == true, decide (0 ≤ (i : Int)) && decide ((i : Int) < ((4 : Nat) : Int)), Nat.ble ((i : Int).toNat + 1) 4, decide (0 ≤ (k : Int)) && decide ((k : Int) < ((4 : Nat) : Int)), Nat.ble ((k : Int).toNat + 1) 4, inR (limb a (i : Int).toNat), inR (limb b (k : Int).toNat), true,
      decide (0 ≤ IntKind.i64.wrap ((i : Int) + k)) && decide (IntKind.i64.wrap ((i : Int) + k) < ((8 : Nat) : Int)), Nat.ble ((IntKind.i64.wrap ((i : Int) + k)).toNat + 1) 8, true,
      decide (0 ≤ IntKind.i64.wrap ((i : Int) + k)) && decide (IntKind.i64.wrap ((i : Int) + k) < ((8 : Nat) : Int)), Nat.ble ((IntKind.i64.wrap ((i : Int) + k)).toNat + 1) 8], .normal,
      riSt a b i (macC (limb a (i : Int).toNat).toNat (limb b (k : Int).toNat).toNat (l.getD (IntKind.i64.wrap ((i : Int) + k)).toNat 0) c) (IntKind.i64.wrap ((k : Int) + 1)) (l.set (IntKind.i64.wrap ((i : Int) + k)).toNat (macO (limb a (i : Int).toNat).toNat (limb b (k : Int).toNat).toNat (l.getD (IntKind.i64.wrap ((i : Int) + k)).toNat 0) c))) := by kernel_rfl
noncomputable def riEnd (a b : BitVec 256) (i c k : Int) (l : List Int) : St := ⟨pat fi_truceref02_Wide.fn.ntmps 0 (rBase i ++ [(8, .int .u64 c), (9, .int .i64 k), (20, .int .i64 k), (21, .bool (decide (k < 4)))]), wH a b l, 7⟩
noncomputable def rEnd (a b : BitVec 256) (i : Int) (l : List Int) : St := ⟨pat fi_truceref02_Wide.fn.ntmps 0 (rBase i ++ [(16, .int .i64 i), (17, .bool (decide (i < 4)))]), wH a b l, 7⟩
theorem ri_end (a b : BitVec 256) (i c k : Int) (l : List Int) : exec (XR1 false) 100 fi_truceref02_Wide (0 :: rIn) 0 (loopAt fi_truceref02_Wide rIn) (riSt a b i c k l) = some ([decide (k < 4) == false], .exit 2, 7, riEnd a b i c k l) := by kernel_rfl
theorem r_end (a b : BitVec 256) (i : Int) (l : List Int) : exec (XR1 false) 100 fi_truceref02_Wide (0 :: rOut) 0 (loopAt fi_truceref02_Wide rOut) (rSt a b i l) = some ([decide (i < 4) == false], .exit 0, 3, rEnd a b i l) := by kernel_rfl
theorem ri_loop (a b : BitVec 256) (i : Nat) (L : List Nat) (hi : i < 4) (hl : L.length = 8) (hd : ∀ d ∈ L, d < b64) : CodeOK Try.prog (.loop (loopAt fi_truceref02_Wide rIn)) (riSt a b i 0 0 (ofN L)) (.exit 2) (riEnd a b i (rowM (dig a.toNat i) b.toNat i L 4).2 4 (ofN (rowM (dig a.toNat i) b.toNat i L 4).1)) := by
  refine rounds_sim mixed (XR1 true) (XR1 false) 100 fi_truceref02_Wide rIn (fun k => riSt a b i ((rowM (dig a.toNat i) b.toNat i L k).2 : Nat) (k : Nat) (ofN (rowM (dig a.toNat i) b.toNat i L k).1)) [2, 3, 4, 5, 6, 7, 8, 9] 5 4 (.exit 2) _ _ (loop_sub (c := loopAt fi_truceref02_Wide rIn) (by kernel_rfl)) (Sim.refl _) (fun _ _ => Nat.le_refl 5) ?_ ⟨_, _, ri_end a b i _ 4 _, by simp⟩ (by simp)
  intro k hk
  obtain ⟨_, h2, h3, _, _⟩ := rowM_ok (b := b.toNat) (i := i) (dig_lt a.toNat i) hl hd k (by omega)
  have e1 : IntKind.i64.wrap ((k : Int) + 1) = ((k + 1 : Nat) : Int) := by rw [wrap_i64_id (by omega) (by omega)]; omega
  have e2 : IntKind.i64.wrap ((i : Int) + k) = ((i + k : Nat) : Int) := by rw [wrap_i64_id (by omega) (by omega)]; omega
  have ho := getD_lt h2 (by decide) (i + k)
  obtain ⟨m1, m2⟩ := mac_int (dig_lt a.toNat i) (dig_lt b.toNat k) ho h3
  refine ⟨_, _, ri_step a b i _ k _, ?_, by kernel_rfl, ?_⟩
  · rw [e2, limb_dig, limb_dig]
    have i1 : inR ((dig a.toNat (i : Int).toNat : Nat) : Int) = true := inR_limb (dig_lt _ _)
    have i2 : inR ((dig b.toNat (k : Int).toNat : Nat) : Int) = true := inR_limb (dig_lt _ _)
    intro q hq
    simp only [i1, i2, List.mem_cons, List.not_mem_nil, or_false] at hq
    rcases hq with hq | hq | hq | hq | hq | hq | hq | hq | hq | hq | hq | hq | hq <;> rw [hq] <;> first | rfl | (simp only [Bool.and_eq_true, decide_eq_true_eq, beq_iff_eq]; omega) | (simp; omega)
  · rw [e1, e2]
    simp only [Int.toNat_natCast, limb_dig, ofN_getD, m1, m2, ofN_set]
    exact Sim.refl _
noncomputable def riLC (a b : BitVec 256) (i : Nat) (L : List Nat) (hi : i < 4) (hl : L.length = 8) (hd : ∀ d ∈ L, d < b64) : LC Try.prog := LC.of fi_truceref02_Wide rIn _ _ _ (loop_sub (c := loopAt fi_truceref02_Wide rIn) (by kernel_rfl)) (ri_loop a b i L hi hl hd)
noncomputable def XRO (l : List (LC Try.prog)) : EnvX Try.prog := { cs := [cAdd64, c_mul64], fis := [fi_truceref02_Wide], lcs := l, br := brL [(54, 3, true)], hint := symAt 54 [14] }
theorem ro_step (a b : BitVec 256) (i : Nat) (L : List Nat) (hi : i < 4) (hl : L.length = 8) (hd : ∀ d ∈ L, d < b64) : stepX (XRO [riLC a b i L hi hl hd]) 100 fi_truceref02_Wide rOut [2, 3, 4, 5, 6, 7] 5 (rSt a b i (ofN L)) =
    some ([decide ((i : Int) < 4) == true, (i : Int) == i, true, true, a == a, b == b, true, true, ofN L == ofN L,
      decide (0 ≤ IntKind.i64.wrap ((i : Int) + 4)) && decide (IntKind.i64.wrap ((i : Int) + 4) < ((8 : Nat) : Int)), Nat.ble ((IntKind.i64.wrap ((i : Int) + 4)).toNat + 1) 8], .normal,
      rSt a b (IntKind.i64.wrap ((i : Int) + 1)) ((ofN (rowM (dig a.toNat i) b.toNat i L 4).1).set (IntKind.i64.wrap ((i : Int) + 4)).toNat ((rowM (dig a.toNat i) b.toNat i L 4).2 : Int))) := by kernel_rfl
theorem r_loop (a b : BitVec 256) : CodeOK Try.prog (.loop (loopAt fi_truceref02_Wide rOut)) (rSt a b 0 (ofN (List.replicate 8 0))) (.exit 0) (rEnd a b 4 (ofN (outM a.toNat b.toNat 4))) := by
  refine rounds_var mixed 100 fi_truceref02_Wide rOut (fun i => rSt a b (i : Nat) (ofN (outM a.toNat b.toNat i))) [2, 3, 4, 5, 6, 7] 5 4 (.exit 0) _ _ (loop_sub (c := loopAt fi_truceref02_Wide rOut) (by kernel_rfl)) (Sim.refl _) (fun _ _ => Nat.le_refl 5) ?_ ⟨XR1 false, _, _, r_end a b 4 _, by simp⟩ (by simp)
  intro i hi
  obtain ⟨h1, h2, _, _⟩ := outM_ok (a := a.toNat) (u_lt b) i (by omega)
  have e1 : IntKind.i64.wrap ((i : Int) + 1) = ((i + 1 : Nat) : Int) := by rw [wrap_i64_id (by omega) (by omega)]; omega
  have e2 : IntKind.i64.wrap ((i : Int) + 4) = ((i + 4 : Nat) : Int) := by rw [wrap_i64_id (by omega) (by omega)]; omega
  refine ⟨XRO _, _, _, ro_step a b i (outM a.toNat b.toNat i) hi h1 h2, ?_, by kernel_rfl, ?_⟩
  · rw [e2]
    intro q hq
    simp only [beq_self_eq_true, List.mem_cons, List.not_mem_nil, or_false] at hq
    rcases hq with hq | hq | hq | hq | hq | hq | hq | hq | hq | hq | hq <;> rw [hq] <;> first | rfl | (simp only [Bool.and_eq_true, decide_eq_true_eq, beq_iff_eq]; omega) | (simp; omega)
  · rw [e1, e2, Int.toNat_natCast, ofN_set]
    exact Sim.refl _
noncomputable def rLC (a b : BitVec 256) : LC Try.prog := LC.of fi_truceref02_Wide rOut _ _ _ (loop_sub (c := loopAt fi_truceref02_Wide rOut) (by kernel_rfl)) (r_loop a b)
noncomputable def XRF (a b : BitVec 256) : EnvX Try.prog := { cs := [], fis := [fi_truceref02_Wide], lcs := [rLC a b] }
theorem ref_Wide_run (a b : BitVec 256) : (callX (XRF a b) (exec (XRF a b) 100) 54 [.u a, .u b] [] 0).map (fun r => (r.1, r.2.1)) =
    some ([true, a == a, b == b, true, true, true], .tup [.ints .u64 4 (((ofN (outM a.toNat b.toNat 4)).drop 4).take 4), .ints .u64 4 (((ofN (outM a.toNat b.toNat 4)).drop 0).take 4)]) := by kernel_rfl
theorem ref_Wide_ok (a b : BitVec 256) : Pure Try.prog 54 [.u a, .u b] (wideOut a b) := by
  obtain ⟨h1, h2, _, _⟩ := outM_ok (a := a.toNat) (u_lt b) 4 (by omega)
  obtain ⟨p1, p2⟩ := wide_parts _ _ h1 h2 (outM_val (u_lt a) (u_lt b)) (wideHi a b) (a * b) (wide_hi_nat a b) (BitVec.toNat_mul a b)
  exact Pure.by_run mixed _ 100 _ _ (ref_Wide_run a b) (by simp) (SameR.tup2 (SameV.u4 p1) (SameV.u4 p2))
noncomputable def c_ref_Wide : Ctr Try.prog := Ctr.u2 54 wideOut ref_Wide_ok
noncomputable def XMulR : EnvX Try.prog := { cs := [c_ref_Wide], fis := [], lcs := [] }
end Go.Proofs.Ytglcjmnkhmdlhaa

