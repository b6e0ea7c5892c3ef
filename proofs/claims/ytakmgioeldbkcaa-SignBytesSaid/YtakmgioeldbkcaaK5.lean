/- Texts of this claim, one behind the other. -/
import Derived.Test.YtakmgioeldbkcaaK4
import Derived.Test.YtakmgioeldbkcaaK2
import Derived.Test.YtakmgioeldbkcaaK3

/- Contracts: a product of two numbers of 64 bits (bits.Mul64). -/
namespace Go.Proofs.Ytakmgioeldbkcaa
open Go Go.RowKit

/-- Slots of a function, written otherwise, region by region. -/
def fixL (f : Nat) : List (Nat × List (Nat × AV)) → Nat → Nat → List (Nat × AV)
  | [], _, _ => []
  | (r, l) :: m, f', r' => match Nat.beq f f' && Nat.beq r r' with
    | true => l
    | false => fixL f m f' r'
def u64N (n : Nat) : AV := .int .u64 (n : Int)

theorem iand_low (x : Nat) (h : x < 18446744073709551616) : iand .u64 (x : Int) 4294967295 = ((x % 4294967296 : Nat) : Int) := by
  have h1 : (x : Int) = ((BitVec.ofNat 64 x).toNat : Int) := by rw [BitVec.toNat_ofNat]; omega
  have h2 : (4294967295 : Int) = ((4294967295#64).toNat : Int) := rfl
  rw [h1, h2, iand_bv, BitVec.toNat_and, BitVec.toNat_ofNat]
  have h3 : (4294967295#64).toNat = 2 ^ 32 - 1 := rfl
  rw [h3, Nat.and_two_pow_sub_one_eq_mod]
  omega
theorem ishr_nat (x k : Nat) (hk : k ≤ 64) : ishr .u64 (x : Int) (k : Int) = ((x / 2 ^ k : Nat) : Int) := sh_nat true k hk x
theorem ishr_32 (x : Nat) : ishr .u64 (x : Int) 32 = ((x / 4294967296 : Nat) : Int) := ishr_nat x 32 (by omega)
theorem wrap_id {n : Nat} (h : n < 18446744073709551616) : IntKind.u64.wrap (n : Int) = n := by
  rw [wrap_nat, Nat.mod_eq_of_lt h]
theorem wrap_add {m n : Nat} (h : m + n < 18446744073709551616) : IntKind.u64.wrap ((m : Int) + (n : Int)) = ((m + n : Nat) : Int) := by
  have : (m : Int) + (n : Int) = ((m + n : Nat) : Int) := by omega
  rw [this, wrap_id h]
theorem wrap_mul {m n : Nat} (h : m * n < 18446744073709551616) : IntKind.u64.wrap ((m : Int) * (n : Int)) = ((m * n : Nat) : Int) := by
  have : (m : Int) * (n : Int) = ((m * n : Nat) : Int) := by simp
  rw [this, wrap_id h]

def m64T (x0 x1 y0 : Nat) : Nat := x1 * y0 + x0 * y0 / 4294967296
noncomputable def XM1 (x0 x1 y0 y1 hi lo : Nat) : EnvX Try.prog := { cs := [], fis := [fi_math_bits_Mul64], lcs := [], fix := fixL 109 [(1, [(6, u64N x0)]), (2, [(7, u64N x1)]), (3, [(8, u64N y0)]), (4, [(9, u64N y1)]), (5, [(10, u64N (x0 * y0))]),
  (6, [(11, u64N (m64T x0 x1 y0))]), (7, [(12, u64N (m64T x0 x1 y0 % 4294967296))]), (8, [(13, u64N (m64T x0 x1 y0 / 4294967296))]), (9, [(12, u64N (m64T x0 x1 y0 % 4294967296 + x0 * y1))]), (10, [(4, u64N hi)]), (11, [(5, u64N lo)])] }
theorem mul64_run (x y x0 x1 y0 y1 hi lo : Nat) : (callX (XM1 x0 x1 y0 y1 hi lo) (exec (XM1 x0 x1 y0 y1 hi lo) 100) 109 [.int .u64 x, .int .u64 y] [] 0).map (fun r => (r.1, r.2.1)) =
    some ([iand .u64 x 4294967295 == (x0 : Int), ishr .u64 x 32 == (x1 : Int), iand .u64 y 4294967295 == (y0 : Int), ishr .u64 y 32 == (y1 : Int), IntKind.u64.wrap ((x0 : Int) * (y0 : Int)) == ((x0 * y0 : Nat) : Int),
      IntKind.u64.wrap (IntKind.u64.wrap ((x1 : Int) * (y0 : Int)) + ishr .u64 ((x0 * y0 : Nat) : Int) 32) == ((m64T x0 x1 y0 : Nat) : Int), iand .u64 ((m64T x0 x1 y0 : Nat) : Int) 4294967295 == ((m64T x0 x1 y0 % 4294967296 : Nat) : Int),
      ishr .u64 ((m64T x0 x1 y0 : Nat) : Int) 32 == ((m64T x0 x1 y0 / 4294967296 : Nat) : Int), IntKind.u64.wrap (((m64T x0 x1 y0 % 4294967296 : Nat) : Int) + IntKind.u64.wrap ((x0 : Int) * (y1 : Int))) == ((m64T x0 x1 y0 % 4294967296 + x0 * y1 : Nat) : Int),
      IntKind.u64.wrap (IntKind.u64.wrap (IntKind.u64.wrap ((x1 : Int) * (y1 : Int)) + ((m64T x0 x1 y0 / 4294967296 : Nat) : Int)) + ishr .u64 ((m64T x0 x1 y0 % 4294967296 + x0 * y1 : Nat) : Int) 32) == (hi : Int), IntKind.u64.wrap ((x : Int) * (y : Int)) == (lo : Int)],
      .tup [.int .u64 hi, .int .u64 lo]) := by kernel_rfl

theorem four_products (x0 x1 y0 y1 : Nat) : (x1 * 4294967296 + x0) * (y1 * 4294967296 + y0) = x1 * y1 * 18446744073709551616 + (x1 * y0 + x0 * y1) * 4294967296 + x0 * y0 := by
  rw [Nat.add_mul, Nat.mul_add, Nat.mul_add, Nat.mul_mul_mul_comm, Nat.mul_right_comm x1 4294967296 y0, ← Nat.mul_assoc x0 y1, Nat.add_mul]
  omega
theorem small_product {a b : Nat} (ha : a < 4294967296) (hb : b < 4294967296) : a * b ≤ 18446744065119617025 := by
  have : a * b ≤ 4294967295 * 4294967295 := Nat.mul_le_mul (by omega) (by omega)
  omega
theorem hi_nat {p00 p10 p01 p11 : Nat} : (p11 * 18446744073709551616 + (p10 + p01) * 4294967296 + p00) / 18446744073709551616 = p11 + (p10 + p00 / 4294967296) / 4294967296 + ((p10 + p00 / 4294967296) % 4294967296 + p01) / 4294967296 := by omega
def mulHi (x y : Nat) : Nat := x * y / 18446744073709551616
def mulLo (x y : Nat) : Nat := x * y % 18446744073709551616
theorem mul64_ok (x y : Nat) (hx : x < 18446744073709551616) (hy : y < 18446744073709551616) : Pure Try.prog 109 [.int .u64 x, .int .u64 y] (.tup [.int .u64 (mulHi x y), .int .u64 (mulLo x y)]) := by
  obtain ⟨x0, hx0⟩ : ∃ z, z = x % 4294967296 := ⟨_, rfl⟩
  obtain ⟨x1, hx1⟩ : ∃ z, z = x / 4294967296 := ⟨_, rfl⟩
  obtain ⟨y0, hy0⟩ : ∃ z, z = y % 4294967296 := ⟨_, rfl⟩
  obtain ⟨y1, hy1⟩ : ∃ z, z = y / 4294967296 := ⟨_, rfl⟩
  have b0 : x0 < 4294967296 := by omega
  have b1 : x1 < 4294967296 := by omega
  have b2 : y0 < 4294967296 := by omega
  have b3 : y1 < 4294967296 := by omega
  have q00 := small_product b0 b2
  have q10 := small_product b1 b2
  have q01 := small_product b0 b3
  have q11 := small_product b1 b3
  have hxy : x * y = x1 * y1 * 18446744073709551616 + (x1 * y0 + x0 * y1) * 4294967296 + x0 * y0 := by
    rw [← four_products, show x1 * 4294967296 + x0 = x by omega, show y1 * 4294967296 + y0 = y by omega]
  have hhi : mulHi x y = x1 * y1 + m64T x0 x1 y0 / 4294967296 + (m64T x0 x1 y0 % 4294967296 + x0 * y1) / 4294967296 := by
    unfold mulHi m64T
    rw [hxy]; exact hi_nat
  have hlt : mulHi x y < 18446744073709551616 := by
    unfold mulHi
    rw [Nat.div_lt_iff_lt_mul (by omega)]
    have : x * y ≤ 18446744073709551615 * 18446744073709551615 := Nat.mul_le_mul (by omega) (by omega)
    omega
  have hT : m64T x0 x1 y0 < 18446744073709551616 := by unfold m64T; omega
  refine Pure.by_run mixed _ 100 _ _ (mul64_run x y x0 x1 y0 y1 (mulHi x y) (mulLo x y)) ?_ (SameR.tup2 (SameV.int rfl) (SameV.int rfl))
  have o1 := iand_low x hx
  have o2 := iand_low y hy
  have o3 := iand_low _ hT
  have o4 : IntKind.u64.wrap (IntKind.u64.wrap ((x1 : Int) * (y0 : Int)) + ishr .u64 ((x0 * y0 : Nat) : Int) 32) = ((m64T x0 x1 y0 : Nat) : Int) := by
    rw [wrap_mul (by omega), ishr_32, wrap_add (by unfold m64T at hT; omega)]; rfl
  have o5 : IntKind.u64.wrap (((m64T x0 x1 y0 % 4294967296 : Nat) : Int) + IntKind.u64.wrap ((x0 : Int) * (y1 : Int))) = ((m64T x0 x1 y0 % 4294967296 + x0 * y1 : Nat) : Int) := by
    rw [wrap_mul (by omega), wrap_add (by omega)]
  have o6 : IntKind.u64.wrap (IntKind.u64.wrap (IntKind.u64.wrap ((x1 : Int) * (y1 : Int)) + ((m64T x0 x1 y0 / 4294967296 : Nat) : Int)) + ishr .u64 ((m64T x0 x1 y0 % 4294967296 + x0 * y1 : Nat) : Int) 32) = (mulHi x y : Int) := by
    rw [wrap_mul (by omega), wrap_add (by omega), ishr_32, wrap_add (by omega), hhi]
  have o7 : IntKind.u64.wrap ((x : Int) * (y : Int)) = (mulLo x y : Int) := by
    have : (x : Int) * (y : Int) = ((x * y : Nat) : Int) := by simp
    rw [this, wrap_nat]; rfl
  have o8 : IntKind.u64.wrap ((x0 : Int) * (y0 : Int)) = ((x0 * y0 : Nat) : Int) := wrap_mul (by omega)
  rw [ishr_32] at o4 o6
  intro b hb
  simp only [o1, o2, o3, o4, o5, o6, o7, o8, ishr_32, ← hx0, ← hx1, ← hy0, ← hy1, beq_self_eq_true, List.mem_cons, List.not_mem_nil, or_false, or_self] at hb
  exact hb
noncomputable def c_mul64 : Ctr Try.prog := Ctr.of 109 (fun | [.int .u64 x, .int .u64 y] => some ([inR x, inR y], .tup [.int .u64 (mulHi x.toNat y.toNat), .int .u64 (mulLo x.toNat y.toNat)]) | _ => none) (by
  intro args ob v h hob
  split at h <;> simp at h
  obtain ⟨rfl, rfl⟩ := h
  rename_i x y
  have h1 := hob (inR x) (by simp)
  have h2 := hob (inR y) (by simp)
  simp only [inR, Bool.and_eq_true, decide_eq_true_eq] at h1 h2
  obtain ⟨m, rfl⟩ := Int.eq_ofNat_of_zero_le h1.1
  obtain ⟨n, rfl⟩ := Int.eq_ofNat_of_zero_le h2.1
  exact mul64_ok m n (by omega) (by omega))
end Go.Proofs.Ytakmgioeldbkcaa

/- Products of numbers of four parts, part by part. -/
namespace Go.Proofs.Ytakmgioeldbkcaa
open Go Go.RowKit

/-- The number of which these are the parts, the lowest first. -/
def val (B : Nat) : List Nat → Nat
  | [] => 0
  | d :: l => d + B * val B l
theorem val_set (B : Nat) : ∀ (l : List Nat) (j v : Nat), j < l.length → val B (l.set j v) + l.getD j 0 * B ^ j = val B l + v * B ^ j
  | [], j, v, h => by simp at h
  | d :: l, 0, v, _ => by simp [val]; omega
  | d :: l, j + 1, v, h => by
    have ih := val_set B l j v (by simpa using h)
    simp only [List.set_cons_succ, List.getD_cons_succ, val, Nat.pow_succ]
    have h1 : l.getD j 0 * (B ^ j * B) = B * (l.getD j 0 * B ^ j) := by rw [← Nat.mul_assoc, Nat.mul_comm]
    have h2 : v * (B ^ j * B) = B * (v * B ^ j) := by rw [← Nat.mul_assoc, Nat.mul_comm]
    rw [h1, h2, Nat.add_assoc, ← Nat.mul_add, ih, Nat.mul_add, ← Nat.add_assoc]
theorem val_append (B : Nat) : ∀ (l m : List Nat), val B (l ++ m) = val B l + B ^ l.length * val B m
  | [], m => by simp [val]
  | d :: l, m => by
    simp only [List.cons_append, val, val_append B l m, List.length_cons, Nat.pow_succ, Nat.mul_add]
    rw [Nat.mul_comm (B ^ l.length) B, Nat.mul_assoc, Nat.add_assoc]
theorem val_lt (B : Nat) : ∀ (l : List Nat), (∀ d ∈ l, d < B) → val B l < B ^ l.length
  | [], _ => by simp [val]
  | d :: l, h => by
    have h1 := val_lt B l (fun e he => h e (by simp [he]))
    have h2 := h d (by simp)
    simp only [val, List.length_cons, Nat.pow_succ]
    have h3 : B * (val B l + 1) ≤ B * B ^ l.length := Nat.mul_le_mul_left _ h1
    rw [Nat.mul_add, Nat.mul_one] at h3
    rw [Nat.mul_comm (B ^ l.length)]
    omega

def b64 : Nat := 18446744073709551616
/-- A part of a number. -/
def dig (b k : Nat) : Nat := b / b64 ^ k % b64
theorem dig_lt (b k : Nat) : dig b k < b64 := Nat.mod_lt _ (by decide)
theorem mod_succ (b k : Nat) : b % b64 ^ (k + 1) = b % b64 ^ k + dig b k * b64 ^ k := by
  unfold dig
  rw [Nat.pow_succ, Nat.mod_mul, Nat.mul_comm (b64 ^ k)]

/-- One part times a number, added from a place on: 'k' steps of it. -/
def rowM (x b i : Nat) (l : List Nat) : Nat → List Nat × Nat
  | 0 => (l, 0)
  | k + 1 => let r := rowM x b i l k
    let s := x * dig b k + r.1.getD (i + k) 0 + r.2
    (r.1.set (i + k) (s % b64), s / b64)

theorem getD_lt {l : List Nat} {B : Nat} (h : ∀ d ∈ l, d < B) (hB : 0 < B) (j : Nat) : l.getD j 0 < B := by
  rw [List.getD]
  cases hj : l[j]? with
  | none => exact hB
  | some d => exact h d (List.mem_of_getElem? hj)
theorem set_all {l : List Nat} {B v j : Nat} (h : ∀ d ∈ l, d < B) (hv : v < B) : ∀ d ∈ l.set j v, d < B := by
  intro d hd
  rcases List.mem_or_eq_of_mem_set hd with h1 | rfl
  · exact h d h1
  · exact hv
theorem getD_set_ne {l : List Nat} {j m v : Nat} (h : j ≠ m) : (l.set j v).getD m 0 = l.getD m 0 := by
  rw [List.getD, List.getD, List.getElem?_set_ne h]

theorem mac_lt {x y o c : Nat} (hx : x < b64) (hy : y < b64) (ho : o < b64) (hc : c < b64) : (x * y + o + c) / b64 < b64 := by
  have h : x * y ≤ 18446744073709551615 * 18446744073709551615 := Nat.mul_le_mul (by unfold b64 at hx; omega) (by unfold b64 at hy; omega)
  rw [Nat.div_lt_iff_lt_mul (by decide)]
  unfold b64 at *
  omega

theorem rowM_ok {x b i : Nat} {l : List Nat} (hx : x < b64) (hl : l.length = 8) (hd : ∀ d ∈ l, d < b64) : ∀ k, i + k ≤ 8 →
    (rowM x b i l k).1.length = 8 ∧ (∀ d ∈ (rowM x b i l k).1, d < b64) ∧ (rowM x b i l k).2 < b64 ∧
      val b64 (rowM x b i l k).1 + (rowM x b i l k).2 * b64 ^ (i + k) = val b64 l + x * (b % b64 ^ k) * b64 ^ i ∧ ∀ j, i + k ≤ j → (rowM x b i l k).1.getD j 0 = l.getD j 0
  | 0, _ => by
    refine ⟨hl, hd, by simp [rowM, b64], ?_, fun j _ => rfl⟩
    simp [rowM, Nat.mod_one]
  | k + 1, hk => by
    obtain ⟨h1, h2, h3, h4, h5⟩ := rowM_ok (b := b) (i := i) hx hl hd k (by omega)
    have ho := getD_lt h2 (by decide) (i + k)
    have hs := mac_lt hx (dig_lt b k) ho h3
    obtain ⟨o, ho'⟩ : ∃ o, o = (rowM x b i l k).1.getD (i + k) 0 := ⟨_, rfl⟩
    obtain ⟨s, hs'⟩ : ∃ s, s = x * dig b k + o + (rowM x b i l k).2 := ⟨_, rfl⟩
    have e1 : (rowM x b i l (k + 1)).1 = (rowM x b i l k).1.set (i + k) (s % b64) := by rw [hs', ho']; rfl
    have e2 : (rowM x b i l (k + 1)).2 = s / b64 := by rw [hs', ho']; rfl
    rw [e1, e2]
    refine ⟨by simp [h1], set_all h2 (Nat.mod_lt _ (by decide)), by rw [hs', ho']; exact hs, ?_, ?_⟩
    · have hv := val_set b64 (rowM x b i l k).1 (i + k) (s % b64) (by omega)
      rw [← ho'] at hv
      obtain ⟨p, hp⟩ : ∃ p, p = b64 ^ (i + k) := ⟨_, rfl⟩
      have hp1 : b64 ^ (i + (k + 1)) = p * b64 := by rw [hp, ← Nat.add_assoc, Nat.pow_succ]
      rw [← hp] at hv h4
      have hsum : s % b64 * p + s / b64 * (p * b64) = s * p := by
        have := Nat.div_add_mod s b64
        calc s % b64 * p + s / b64 * (p * b64) = (b64 * (s / b64) + s % b64) * p := by
              rw [Nat.add_mul, Nat.mul_comm p b64, ← Nat.mul_assoc, Nat.mul_comm (s / b64) b64]; omega
          _ = s * p := by rw [this]
      have hsp : s * p = x * dig b k * p + o * p + (rowM x b i l k).2 * p := by rw [hs', Nat.add_mul, Nat.add_mul]
      have hx2 : x * (b % b64 ^ (k + 1)) * b64 ^ i = x * (b % b64 ^ k) * b64 ^ i + x * dig b k * p := by
        rw [mod_succ, Nat.mul_add, Nat.add_mul, hp, Nat.pow_add, Nat.mul_comm (b64 ^ i)]
        simp only [Nat.mul_assoc]
      rw [hp1, hx2]
      omega
    · intro j hj
      rw [getD_set_ne (by omega)]
      exact h5 j (by omega)

def outM (a b : Nat) : Nat → List Nat
  | 0 => List.replicate 8 0
  | i + 1 => let r := rowM (dig a i) b i (outM a b i) 4
    r.1.set (i + 4) r.2
theorem outM_ok {a b : Nat} (hb : b < b64 ^ 4) : ∀ i, i ≤ 4 → (outM a b i).length = 8 ∧ (∀ d ∈ outM a b i, d < b64) ∧ val b64 (outM a b i) = (a % b64 ^ i) * b ∧ ∀ j, i + 4 ≤ j → (outM a b i).getD j 0 = 0
  | 0, _ => by
    refine ⟨rfl, by simp [outM, b64], by simp [outM, val, Nat.mod_one, List.replicate], ?_⟩
    intro j _
    show (List.replicate 8 0).getD j 0 = 0
    rw [List.getD, List.getElem?_replicate]
    split <;> rfl
  | i + 1, hi => by
    obtain ⟨h1, h2, h3, h4⟩ := outM_ok (a := a) hb i (by omega)
    obtain ⟨g1, g2, g3, g4, g5⟩ := rowM_ok (b := b) (i := i) (dig_lt a i) h1 h2 4 (by omega)
    have e : outM a b (i + 1) = (rowM (dig a i) b i (outM a b i) 4).1.set (i + 4) (rowM (dig a i) b i (outM a b i) 4).2 := rfl
    rw [e]
    refine ⟨by simp [g1], set_all g2 g3, ?_, ?_⟩
    · have hv := val_set b64 (rowM (dig a i) b i (outM a b i) 4).1 (i + 4) (rowM (dig a i) b i (outM a b i) 4).2 (by omega)
      rw [g5 (i + 4) (Nat.le_refl _), h4 (i + 4) (Nat.le_refl _), Nat.zero_mul, Nat.add_zero, g4, Nat.mod_eq_of_lt hb, h3] at hv
      rw [hv, mod_succ, Nat.add_mul, Nat.mul_right_comm]
    · intro j hj
      rw [getD_set_ne (by omega), g5 j (by omega)]
      exact h4 j (by omega)
theorem outM_val {a b : Nat} (ha : a < b64 ^ 4) (hb : b < b64 ^ 4) : val b64 (outM a b 4) = a * b := by
  rw [(outM_ok hb 4 (Nat.le_refl 4)).2.2.1, Nat.mod_eq_of_lt ha]
end Go.Proofs.Ytakmgioeldbkcaa

/- Contracts: products (mul.Wide, mul.Mul). -/
namespace Go.Proofs.Ytakmgioeldbkcaa
open Go Go.RowKit

def ofN (l : List Nat) : List Int := l.map Int.ofNat
def wIn : List Nat := [0, 1, 0, 1, 1, 0, 0, 1, 1, 0, 0, 1, 0, 1, 1]
def wOut : List Nat := [0, 1, 0, 1, 1]
def wH (a b : BitVec 256) (l : List Int) : Heap := [some ⟨24, .u a, true⟩, some ⟨24, .u b, true⟩, some ⟨24, .ints .u64 4 [0, 0, 0, 0], true⟩, some ⟨24, .ints .u64 4 [0, 0, 0, 0], true⟩, some ⟨79, .ints .u64 8 l, true⟩]
def wBase (a : BitVec 256) (i : Int) : List (Nat × AV) := [(2, .ptr 0 []), (3, .ptr 1 []), (4, .ptr 2 []), (5, .ptr 3 []), (6, .ptr 4 []), (16, .u a), (17, .int .i64 i)]
noncomputable def wSt (a b : BitVec 256) (i : Int) (l : List Int) : St := ⟨pat fi_mul_Wide.fn.ntmps 0 (wBase a i), wH a b l, 5⟩
noncomputable def wiSt (a b : BitVec 256) (i x c k : Int) (l : List Int) : St := ⟨pat fi_mul_Wide.fn.ntmps 0 (wBase a i ++ [(7, .int .i64 i), (8, .int .u64 x), (9, .int .u64 c), (21, .u b), (22, .int .i64 k)]), wH a b l, 5⟩
noncomputable def XW (d : Bool) : EnvX Try.prog := { cs := [cAdd64, c_mul64], fis := [fi_mul_Wide], lcs := [], br := brL [(59, 7, d), (59, 3, d)], hint := symAt 59 [8, 12, 15, 4] }

def macO (x y : Nat) (o c : Int) : Int := addS o (addS (mulLo x y) c 0) 0
def macC (x y : Nat) (o c : Int) : Int := IntKind.u64.wrap (IntKind.u64.wrap ((mulHi x y : Int) + addC (mulLo x y) c 0) + addC o (addS (mulLo x y) c 0) 0)
theorem wi_step (a b : BitVec 256) (i x c k : Nat) (l : List Int) : stepX (XW true) 100 fi_mul_Wide wIn [2, 3, 4, 5, 6, 16, 17, 7, 8, 9, 21, 22] 5 (wiSt a b i x c k l) =
    some ([decide ((k : Int) < 4) == true, decide (0 ≤ (k : Int)) && decide ((k : Int) < ((4 : Nat) : Int)), Nat.ble ((k : Int).toNat + 1) 4, inR x, inR (limb b (k : Int).toNat), true,
      decide (0 ≤ IntKind.i64.wrap ((i : Int) + k)) && decide (IntKind.i64.wrap ((i : Int) + k) < ((8 : Nat) : Int)), Nat.ble ((IntKind.i64.wrap ((i : Int) + k)).toNat + 1) 8, true,
      decide (0 ≤ IntKind.i64.wrap ((i : Int) + k)) && decide (IntKind.i64.wrap ((i : Int) + k) < ((8 : Nat) : Int)), Nat.ble ((IntKind.i64.wrap ((i : Int) + k)).toNat + 1) 8], .normal,
      wiSt a b i x (macC (x : Int).toNat (limb b (k : Int).toNat).toNat (l.getD (IntKind.i64.wrap ((i : Int) + k)).toNat 0) c) (IntKind.i64.wrap ((k : Int) + 1)) (l.set (IntKind.i64.wrap ((i : Int) + k)).toNat (macO (x : Int).toNat (limb b (k : Int).toNat).toNat (l.getD (IntKind.i64.wrap ((i : Int) + k)).toNat 0) c))) := by kernel_rfl

theorem mac_nat {p o c : Nat} (ho : o < 18446744073709551616) (hc : c < 18446744073709551616) (hp : p ≤ 340282366920938463426481119284349108225) :
    (o + (p % 18446744073709551616 + c + 0) % 18446744073709551616 + 0) % 18446744073709551616 = (p + o + c) % 18446744073709551616 ∧
    p / 18446744073709551616 + (p % 18446744073709551616 + c + 0) / 18446744073709551616 + (o + (p % 18446744073709551616 + c + 0) % 18446744073709551616 + 0) / 18446744073709551616 = (p + o + c) / 18446744073709551616 ∧
    (p + o + c) / 18446744073709551616 < 18446744073709551616 := by omega
theorem mac_int {x y o c : Nat} (hx : x < b64) (hy : y < b64) (ho : o < b64) (hc : c < b64) : macO x y (o : Int) (c : Int) = (((x * y + o + c) % b64 : Nat) : Int) ∧ macC x y (o : Int) (c : Int) = (((x * y + o + c) / b64 : Nat) : Int) := by
  have hp : x * y ≤ 18446744073709551615 * 18446744073709551615 := Nat.mul_le_mul (by unfold b64 at hx; omega) (by unfold b64 at hy; omega)
  obtain ⟨h1, h2, h3⟩ := mac_nat (p := x * y) ho hc (by omega)
  constructor
  · unfold macO addS mulLo b64
    simp only [Int.toNat_natCast, Int.toNat_zero]
    rw [h1]
  · unfold macC addS addC mulLo mulHi b64
    simp only [Int.toNat_natCast, Int.toNat_zero]
    rw [wrap_add (by omega), wrap_add (by omega), h2]
theorem ofN_getD (l : List Nat) (j : Nat) : (ofN l).getD j 0 = ((l.getD j 0 : Nat) : Int) := by
  unfold ofN
  rw [List.getD, List.getD, List.getElem?_map]
  cases l[j]? <;> rfl
theorem ofN_set (l : List Nat) (j v : Nat) : (ofN l).set j (v : Int) = ofN (l.set j v) := by
  unfold ofN
  rw [List.map_set]
  rfl
theorem limb_dig (b : BitVec 256) (k : Nat) : limb b k = ((dig b.toNat k : Nat) : Int) := by
  unfold limb dig b64
  rw [Nat.pow_mul]

noncomputable def wiEnd (a b : BitVec 256) (i x c k : Int) (l : List Int) : St := ⟨pat fi_mul_Wide.fn.ntmps 0 (wBase a i ++ [(7, .int .i64 i), (8, .int .u64 x), (9, .int .u64 c), (21, .u b), (22, .int .i64 k), (23, .bool (decide (k < 4)))]), wH a b l, 6⟩
noncomputable def wEnd (a b : BitVec 256) (i : Int) (l : List Int) : St := ⟨pat fi_mul_Wide.fn.ntmps 0 (wBase a i ++ [(18, .bool (decide (i < 4)))]), wH a b l, 6⟩
theorem wi_end (a b : BitVec 256) (i x c k : Int) (l : List Int) : exec (XW false) 100 fi_mul_Wide (0 :: wIn) 0 (loopAt fi_mul_Wide wIn) (wiSt a b i x c k l) = some ([decide (k < 4) == false], .exit 2, 7, wiEnd a b i x c k l) := by kernel_rfl
theorem w_end (a b : BitVec 256) (i : Int) (l : List Int) : exec (XW false) 100 fi_mul_Wide (0 :: wOut) 0 (loopAt fi_mul_Wide wOut) (wSt a b i l) = some ([decide (i < 4) == false], .exit 0, 3, wEnd a b i l) := by kernel_rfl

theorem wi_loop (a b : BitVec 256) (i x : Nat) (L : List Nat) (hi : i < 4) (hx : x < b64) (hl : L.length = 8) (hd : ∀ d ∈ L, d < b64) : CodeOK Try.prog (.loop (loopAt fi_mul_Wide wIn)) (wiSt a b i x 0 0 (ofN L)) (.exit 2) (wiEnd a b i x (rowM x b.toNat i L 4).2 4 (ofN (rowM x b.toNat i L 4).1)) := by
  refine rounds_sim mixed (XW true) (XW false) 100 fi_mul_Wide wIn (fun k => wiSt a b i x ((rowM x b.toNat i L k).2 : Nat) (k : Nat) (ofN (rowM x b.toNat i L k).1)) [2, 3, 4, 5, 6, 16, 17, 7, 8, 9, 21, 22] 5 4 (.exit 2) _ _ (loop_sub (c := loopAt fi_mul_Wide wIn) (by kernel_rfl)) ?_ (fun _ _ => Nat.le_refl 5) ?_ ?_ (by simp)
  · exact Sim.refl _
  · intro k hk
    obtain ⟨_, h2, h3, _, _⟩ := rowM_ok (b := b.toNat) (i := i) hx hl hd k (by omega)
    have e1 : IntKind.i64.wrap ((k : Int) + 1) = ((k + 1 : Nat) : Int) := by rw [wrap_i64_id (by omega) (by omega)]; omega
    have e2 : IntKind.i64.wrap ((i : Int) + k) = ((i + k : Nat) : Int) := by rw [wrap_i64_id (by omega) (by omega)]; omega
    have ho := getD_lt h2 (by decide) (i + k)
    obtain ⟨m1, m2⟩ := mac_int hx (dig_lt b.toNat k) ho h3
    refine ⟨_, _, wi_step a b i x _ k _, ?_, by kernel_rfl, ?_⟩
    · rw [e2, limb_dig]
      have i1 : inR (x : Int) = true := inR_limb hx
      have i2 : inR ((dig b.toNat (k : Int).toNat : Nat) : Int) = true := inR_limb (dig_lt _ _)
      intro q hq
      simp only [i1, i2, List.mem_cons, List.not_mem_nil, or_false] at hq
      rcases hq with hq | hq | hq | hq | hq | hq | hq | hq | hq | hq | hq <;> rw [hq] <;> first | rfl | (simp only [Bool.and_eq_true, decide_eq_true_eq, beq_iff_eq]; omega) | (simp; omega)
    · rw [e1, e2]
      simp only [Int.toNat_natCast, limb_dig, ofN_getD, m1, m2, ofN_set]
      exact Sim.refl _
  · exact ⟨_, _, wi_end a b i x _ 4 _, by simp⟩
noncomputable def wiLC (a b : BitVec 256) (i x : Nat) (L : List Nat) (hi : i < 4) (hx : x < b64) (hl : L.length = 8) (hd : ∀ d ∈ L, d < b64) : LC Try.prog := LC.of fi_mul_Wide wIn _ _ _ (loop_sub (c := loopAt fi_mul_Wide wIn) (by kernel_rfl)) (wi_loop a b i x L hi hx hl hd)

noncomputable def XWO (l : List (LC Try.prog)) : EnvX Try.prog := { cs := [cAdd64, c_mul64], fis := [fi_mul_Wide], lcs := l, br := brL [(59, 3, true)], hint := symAt 59 [15, 4] }

theorem wo_step (a b : BitVec 256) (i x : Nat) (L : List Nat) (hi : i < 4) (hx : x < b64) (hl : L.length = 8) (hd : ∀ d ∈ L, d < b64) : stepX (XWO [wiLC a b i x L hi hx hl hd]) 100 fi_mul_Wide wOut [2, 3, 4, 5, 6, 16, 17] 5 (wSt a b i (ofN L)) =
    some ([decide ((i : Int) < 4) == true, decide (0 ≤ (i : Int)) && decide ((i : Int) < ((4 : Nat) : Int)), Nat.ble ((i : Int).toNat + 1) 4, (i : Int) == i, (x : Int) == limb a (i : Int).toNat, true, a == a, (i : Int) == i, b == b, true, a == a, b == b, true, true, ofN L == ofN L,
      decide (0 ≤ IntKind.i64.wrap ((i : Int) + 4)) && decide (IntKind.i64.wrap ((i : Int) + 4) < ((8 : Nat) : Int)), Nat.ble ((IntKind.i64.wrap ((i : Int) + 4)).toNat + 1) 8], .normal,
      wSt a b (IntKind.i64.wrap ((i : Int) + 1)) ((ofN (rowM x b.toNat i L 4).1).set (IntKind.i64.wrap ((i : Int) + 4)).toNat ((rowM x b.toNat i L 4).2 : Int))) := by kernel_rfl
theorem u_lt (b : BitVec 256) : b.toNat < b64 ^ 4 := Nat.lt_of_lt_of_le b.isLt (by decide)

/-- A step of a loop whose surroundings hang on the round. -/
theorem w_loop (a b : BitVec 256) : CodeOK Try.prog (.loop (loopAt fi_mul_Wide wOut)) (wSt a b 0 (ofN (List.replicate 8 0))) (.exit 0) (wEnd a b 4 (ofN (outM a.toNat b.toNat 4))) := by
  refine rounds_var mixed 100 fi_mul_Wide wOut (fun i => wSt a b (i : Nat) (ofN (outM a.toNat b.toNat i))) [2, 3, 4, 5, 6, 16, 17] 5 4 (.exit 0) _ _ (loop_sub (c := loopAt fi_mul_Wide wOut) (by kernel_rfl)) (Sim.refl _) (fun _ _ => Nat.le_refl 5) ?_ ⟨XW false, _, _, w_end a b 4 _, by simp⟩ (by simp)
  intro i hi
  obtain ⟨h1, h2, _, _⟩ := outM_ok (a := a.toNat) (u_lt b) i (by omega)
  have e1 : IntKind.i64.wrap ((i : Int) + 1) = ((i + 1 : Nat) : Int) := by rw [wrap_i64_id (by omega) (by omega)]; omega
  have e2 : IntKind.i64.wrap ((i : Int) + 4) = ((i + 4 : Nat) : Int) := by rw [wrap_i64_id (by omega) (by omega)]; omega
  refine ⟨XWO _, _, _, wo_step a b i (dig a.toNat i) (outM a.toNat b.toNat i) hi (dig_lt _ _) h1 h2, ?_, by kernel_rfl, ?_⟩
  · rw [e2, limb_dig]
    intro q hq
    simp only [Int.toNat_natCast, beq_self_eq_true, List.mem_cons, List.not_mem_nil, or_false] at hq
    rcases hq with hq | hq | hq | hq | hq | hq | hq | hq | hq | hq | hq | hq | hq | hq | hq | hq | hq <;> rw [hq] <;> first | rfl | (simp only [Bool.and_eq_true, decide_eq_true_eq, beq_iff_eq]; omega) | (simp; omega)
  · rw [e1, e2, Int.toNat_natCast, ofN_set]
    exact Sim.refl _
noncomputable def wLC (a b : BitVec 256) : LC Try.prog := LC.of fi_mul_Wide wOut _ _ _ (loop_sub (c := loopAt fi_mul_Wide wOut) (by kernel_rfl)) (w_loop a b)
noncomputable def XWF (a b : BitVec 256) : EnvX Try.prog := { cs := [], fis := [fi_mul_Wide], lcs := [wLC a b] }
theorem num_Wide_run (a b : BitVec 256) : (callX (XWF a b) (exec (XWF a b) 100) 59 [.u a, .u b] [] 0).map (fun r => (r.1, r.2.1)) =
    some ([a == a, true, a == a, b == b, true, true, true], .tup [.ints .u64 4 (((ofN (outM a.toNat b.toNat 4)).drop 4).take 4), .ints .u64 4 (((ofN (outM a.toNat b.toNat 4)).drop 0).take 4)]) := by kernel_rfl

def wideHi (a b : BitVec 256) : BitVec 256 := BitVec.ofNat 256 (a.toNat * b.toNat / 2 ^ 256)
def wideOut (a b : BitVec 256) : AV := .tup [.u (wideHi a b), .u (a * b)]
theorem wide_parts (l : List Nat) (n : Nat) (hl : l.length = 8) (hd : ∀ d ∈ l, d < b64) (hv : val b64 l = n) (x y : BitVec 256) (hx : x.toNat = n / 2 ^ 256) (hy : y.toNat = n % 2 ^ 256) :
    ((ofN l).drop 4).take 4 = [limb x 0, limb x 1, limb x 2, limb x 3] ∧ ((ofN l).drop 0).take 4 = [limb y 0, limb y 1, limb y 2, limb y 3] := by
  match l, hl with
  | [l0, l1, l2, l3, l4, l5, l6, l7], _ =>
    have h0 : l0 < 18446744073709551616 := hd l0 (by simp)
    have h1 : l1 < 18446744073709551616 := hd l1 (by simp)
    have h2 : l2 < 18446744073709551616 := hd l2 (by simp)
    have h3 : l3 < 18446744073709551616 := hd l3 (by simp)
    have h4 : l4 < 18446744073709551616 := hd l4 (by simp)
    have h5 : l5 < 18446744073709551616 := hd l5 (by simp)
    have h6 : l6 < 18446744073709551616 := hd l6 (by simp)
    have h7 : l7 < 18446744073709551616 := hd l7 (by simp)
    have hv2 : nat4 l0 l1 l2 l3 + 2 ^ 256 * nat4 l4 l5 l6 l7 = n := by
      rw [← hv]
      simp only [val, b64, nat4]
      omega
    have hlt := nat4_lt h0 h1 h2 h3
    have ex : x.toNat = nat4 l4 l5 l6 l7 := by rw [hx]; omega
    have ey : y.toNat = nat4 l0 l1 l2 l3 := by rw [hy]; omega
    obtain ⟨a0, a1, a2, a3⟩ := limb_of h4 h5 h6 h7 ex
    obtain ⟨c0, c1, c2, c3⟩ := limb_of h0 h1 h2 h3 ey
    rw [a0, a1, a2, a3, c0, c1, c2, c3]
    exact ⟨rfl, rfl⟩
theorem wide_hi_nat (a b : BitVec 256) : (wideHi a b).toNat = a.toNat * b.toNat / 2 ^ 256 := by
  unfold wideHi
  rw [BitVec.toNat_ofNat, Nat.mod_eq_of_lt]
  rw [Nat.div_lt_iff_lt_mul (by decide)]
  exact Nat.mul_lt_mul_of_lt_of_lt a.isLt b.isLt
theorem num_Wide_ok (a b : BitVec 256) : Pure Try.prog 59 [.u a, .u b] (wideOut a b) := by
  obtain ⟨h1, h2, _, _⟩ := outM_ok (a := a.toNat) (u_lt b) 4 (by omega)
  obtain ⟨p1, p2⟩ := wide_parts _ _ h1 h2 (outM_val (u_lt a) (u_lt b)) (wideHi a b) (a * b) (wide_hi_nat a b) (BitVec.toNat_mul a b)
  exact Pure.by_run mixed _ 100 _ _ (num_Wide_run a b) (by simp) (SameR.tup2 (SameV.u4 p1) (SameV.u4 p2))
noncomputable def c_num_Wide : Ctr Try.prog := Ctr.u2 59 wideOut num_Wide_ok
noncomputable def XMul : EnvX Try.prog := { cs := [c_num_Wide], fis := [fi_mul_Mul], lcs := [] }
theorem num_Mul_run (a b : BitVec 256) : (callX XMul (exec XMul 100) 61 [.u a, .u b] [] 0).map (fun r => (r.1, r.2.1)) = some ([], .u (a * b)) := by kernel_rfl
theorem num_Mul_ok (a b : BitVec 256) : Pure Try.prog 61 [.u a, .u b] (.u (a * b)) := Pure.by_run mixed XMul 100 _ _ (num_Mul_run a b) (by simp) (SameV.u rfl).r
noncomputable def c_num_Mul : Ctr Try.prog := Ctr.u2 61 (fun a b => .u (a * b)) num_Mul_ok
end Go.Proofs.Ytakmgioeldbkcaa

/- Contracts: products, by the document (truceref02.Wide, Mul). -/
namespace Go.Proofs.Ytakmgioeldbkcaa
open Go Go.RowKit

def rIn : List Nat := [0, 1, 0, 1, 0, 0, 1, 0, 0, 1, 0, 1, 1]
def rOut : List Nat := [0, 1, 0, 1, 1]
def rBase (i : Int) : List (Nat × AV) := [(2, .ptr 0 []), (3, .ptr 1 []), (4, .ptr 2 []), (5, .ptr 3 []), (6, .ptr 4 []), (7, .int .i64 i)]
noncomputable def rSt (a b : BitVec 256) (i : Int) (l : List Int) : St := ⟨pat fi_truceref02_Wide.fn.ntmps 0 (rBase i), wH a b l, 5⟩
noncomputable def riSt (a b : BitVec 256) (i c k : Int) (l : List Int) : St := ⟨pat fi_truceref02_Wide.fn.ntmps 0 (rBase i ++ [(8, .int .u64 c), (9, .int .i64 k)]), wH a b l, 5⟩
noncomputable def XR1 (d : Bool) : EnvX Try.prog := { cs := [cAdd64, c_mul64], fis := [fi_truceref02_Wide], lcs := [], br := brL [(60, 7, d), (60, 3, d)], hint := symAt 60 [9, 11, 12, 14] }

theorem ri_step (a b : BitVec 256) (i c k : Nat) (l : List Int) : stepX (XR1 true) 100 fi_truceref02_Wide rIn [2, 3, 4, 5, 6, 7, 8, 9] 5 (riSt a b i c k l) =
    some ([decide ((k : Int) < 4) == true, decide (0 ≤ (i : Int)) && decide ((i : Int) < ((4 : Nat) : Int)), Nat.ble ((i : Int).toNat + 1) 4, decide (0 ≤ (k : Int)) && decide ((k : Int) < ((4 : Nat) : Int)), Nat.ble ((k : Int).toNat + 1) 4, inR (limb a (i : Int).toNat), inR (limb b (k : Int).toNat), true,
      decide (0 ≤ IntKind.i64.wrap ((i : Int) + k)) && decide (IntKind.i64.wrap ((i : Int) + k) < ((8 : Nat) : Int)), Nat.ble ((IntKind.i64.wrap ((i : Int) + k)).toNat + 1) 8, true,
      decide (0 ≤ IntKind.i64.wrap ((i : Int) + k)) && decide (IntKind.i64.wrap ((i : Int) + k) < ((8 : Nat) : Int)), Nat.ble ((IntKind.i64.wrap ((i : Int) + k)).toNat + 1) 8], .normal,
      riSt a b i (macC (limb a (i : Int).toNat).toNat (limb b (k : Int).toNat).toNat (l.getD (IntKind.i64.wrap ((i : Int) + k)).toNat 0) c) (IntKind.i64.wrap ((k : Int) + 1)) (l.set (IntKind.i64.wrap ((i : Int) + k)).toNat (macO (limb a (i : Int).toNat).toNat (limb b (k : Int).toNat).toNat (l.getD (IntKind.i64.wrap ((i : Int) + k)).toNat 0) c))) := by kernel_rfl
noncomputable def riEnd (a b : BitVec 256) (i c k : Int) (l : List Int) : St := ⟨pat fi_truceref02_Wide.fn.ntmps 0 (rBase i ++ [(8, .int .u64 c), (9, .int .i64 k), (20, .int .i64 k), (21, .bool (decide (k < 4)))]), wH a b l, 7⟩
noncomputable def rEnd (a b : BitVec 256) (i : Int) (l : List Int) : St := ⟨pat fi_truceref02_Wide.fn.ntmps 0 (rBase i ++ [(16, .int .i64 i), (17, .bool (decide (i < 4)))]), wH a b l, 7⟩
theorem ri_end (a b : BitVec 256) (i c k : Int) (l : List Int) : exec (XR1 false) 100 fi_truceref02_Wide (0 :: rIn) 0 (loopAt fi_truceref02_Wide rIn) (riSt a b i c k l) = some ([decide (k < 4) == false], .exit 2, 7, riEnd a b i c k l) := by kernel_rfl
theorem r_end (a b : BitVec 256) (i : Int) (l : List Int) : exec (XR1 false) 100 fi_truceref02_Wide (0 :: rOut) 0 (loopAt fi_truceref02_Wide rOut) (rSt a b i l) = some ([decide (i < 4) == false], .exit 0, 3, rEnd a b i l) := by kernel_rfl
theorem ri_loop (a b : BitVec 256) (i : Nat) (L : List Nat) (hi : i < 4) (hl : L.length = 8) (hd : ∀ d ∈ L, d < b64) : CodeOK Try.prog (.loop (loopAt fi_truceref02_Wide rIn)) (riSt a b i 0 0 (ofN L)) (.exit 2) (riEnd a b i (rowM (dig a.toNat i) b.toNat i L 4).2 4 (ofN (rowM (dig a.toNat i) b.toNat i L 4).1)) := by
  refine rounds_sim mixed (XR1 true) (XR1 false) 100 fi_truceref02_Wide rIn (fun k => riSt a b i ((rowM (dig a.toNat i) b.toNat i L k).2 : Nat) (k : Nat) (ofN (rowM (dig a.toNat i) b.toNat i L k).1)) [2, 3, 4, 5, 6, 7, 8, 9] 5 4 (.exit 2) _ _ (loop_sub (c := loopAt fi_truceref02_Wide rIn) (by kernel_rfl)) (Sim.refl _) (fun _ _ => Nat.le_refl 5) ?_ ⟨_, _, ri_end a b i _ 4 _, by simp⟩ (by simp)
  intro k hk
  obtain ⟨_, h2, h3, _, _⟩ := rowM_ok (b := b.toNat) (i := i) (dig_lt a.toNat i) hl hd k (by omega)
  have e1 : IntKind.i64.wrap ((k : Int) + 1) = ((k + 1 : Nat) : Int) := by rw [wrap_i64_id (by omega) (by omega)]; omega
  have e2 : IntKind.i64.wrap ((i : Int) + k) = ((i + k : Nat) : Int) := by rw [wrap_i64_id (by omega) (by omega)]; omega
  have ho := getD_lt h2 (by decide) (i + k)
  obtain ⟨m1, m2⟩ := mac_int (dig_lt a.toNat i) (dig_lt b.toNat k) ho h3
  refine ⟨_, _, ri_step a b i _ k _, ?_, by kernel_rfl, ?_⟩
  · rw [e2, limb_dig, limb_dig]
    have i1 : inR ((dig a.toNat (i : Int).toNat : Nat) : Int) = true := inR_limb (dig_lt _ _)
    have i2 : inR ((dig b.toNat (k : Int).toNat : Nat) : Int) = true := inR_limb (dig_lt _ _)
    intro q hq
    simp only [i1, i2, List.mem_cons, List.not_mem_nil, or_false] at hq
    rcases hq with hq | hq | hq | hq | hq | hq | hq | hq | hq | hq | hq | hq | hq <;> rw [hq] <;> first | rfl | (simp only [Bool.and_eq_true, decide_eq_true_eq, beq_iff_eq]; omega) | (simp; omega)
  · rw [e1, e2]
    simp only [Int.toNat_natCast, limb_dig, ofN_getD, m1, m2, ofN_set]
    exact Sim.refl _
noncomputable def riLC (a b : BitVec 256) (i : Nat) (L : List Nat) (hi : i < 4) (hl : L.length = 8) (hd : ∀ d ∈ L, d < b64) : LC Try.prog := LC.of fi_truceref02_Wide rIn _ _ _ (loop_sub (c := loopAt fi_truceref02_Wide rIn) (by kernel_rfl)) (ri_loop a b i L hi hl hd)
noncomputable def XRO (l : List (LC Try.prog)) : EnvX Try.prog := { cs := [cAdd64, c_mul64], fis := [fi_truceref02_Wide], lcs := l, br := brL [(60, 3, true)], hint := symAt 60 [14] }
theorem ro_step (a b : BitVec 256) (i : Nat) (L : List Nat) (hi : i < 4) (hl : L.length = 8) (hd : ∀ d ∈ L, d < b64) : stepX (XRO [riLC a b i L hi hl hd]) 100 fi_truceref02_Wide rOut [2, 3, 4, 5, 6, 7] 5 (rSt a b i (ofN L)) =
    some ([decide ((i : Int) < 4) == true, (i : Int) == i, true, true, a == a, b == b, true, true, ofN L == ofN L,
      decide (0 ≤ IntKind.i64.wrap ((i : Int) + 4)) && decide (IntKind.i64.wrap ((i : Int) + 4) < ((8 : Nat) : Int)), Nat.ble ((IntKind.i64.wrap ((i : Int) + 4)).toNat + 1) 8], .normal,
      rSt a b (IntKind.i64.wrap ((i : Int) + 1)) ((ofN (rowM (dig a.toNat i) b.toNat i L 4).1).set (IntKind.i64.wrap ((i : Int) + 4)).toNat ((rowM (dig a.toNat i) b.toNat i L 4).2 : Int))) := by kernel_rfl
theorem r_loop (a b : BitVec 256) : CodeOK Try.prog (.loop (loopAt fi_truceref02_Wide rOut)) (rSt a b 0 (ofN (List.replicate 8 0))) (.exit 0) (rEnd a b 4 (ofN (outM a.toNat b.toNat 4))) := by
  refine rounds_var mixed 100 fi_truceref02_Wide rOut (fun i => rSt a b (i : Nat) (ofN (outM a.toNat b.toNat i))) [2, 3, 4, 5, 6, 7] 5 4 (.exit 0) _ _ (loop_sub (c := loopAt fi_truceref02_Wide rOut) (by kernel_rfl)) (Sim.refl _) (fun _ _ => Nat.le_refl 5) ?_ ⟨XR1 false, _, _, r_end a b 4 _, by simp⟩ (by simp)
  intro i hi
  obtain ⟨h1, h2, _, _⟩ := outM_ok (a := a.toNat) (u_lt b) i (by omega)
  have e1 : IntKind.i64.wrap ((i : Int) + 1) = ((i + 1 : Nat) : Int) := by rw [wrap_i64_id (by omega) (by omega)]; omega
  have e2 : IntKind.i64.wrap ((i : Int) + 4) = ((i + 4 : Nat) : Int) := by rw [wrap_i64_id (by omega) (by omega)]; omega
  refine ⟨XRO _, _, _, ro_step a b i (outM a.toNat b.toNat i) hi h1 h2, ?_, by kernel_rfl, ?_⟩
  · rw [e2]
    intro q hq
    simp only [beq_self_eq_true, List.mem_cons, List.not_mem_nil, or_false] at hq
    rcases hq with hq | hq | hq | hq | hq | hq | hq | hq | hq | hq | hq <;> rw [hq] <;> first | rfl | (simp only [Bool.and_eq_true, decide_eq_true_eq, beq_iff_eq]; omega) | (simp; omega)
  · rw [e1, e2, Int.toNat_natCast, ofN_set]
    exact Sim.refl _
noncomputable def rLC (a b : BitVec 256) : LC Try.prog := LC.of fi_truceref02_Wide rOut _ _ _ (loop_sub (c := loopAt fi_truceref02_Wide rOut) (by kernel_rfl)) (r_loop a b)
noncomputable def XRF (a b : BitVec 256) : EnvX Try.prog := { cs := [], fis := [fi_truceref02_Wide], lcs := [rLC a b] }
theorem ref_Wide_run (a b : BitVec 256) : (callX (XRF a b) (exec (XRF a b) 100) 60 [.u a, .u b] [] 0).map (fun r => (r.1, r.2.1)) =
    some ([true, a == a, b == b, true, true, true], .tup [.ints .u64 4 (((ofN (outM a.toNat b.toNat 4)).drop 4).take 4), .ints .u64 4 (((ofN (outM a.toNat b.toNat 4)).drop 0).take 4)]) := by kernel_rfl
theorem ref_Wide_ok (a b : BitVec 256) : Pure Try.prog 60 [.u a, .u b] (wideOut a b) := by
  obtain ⟨h1, h2, _, _⟩ := outM_ok (a := a.toNat) (u_lt b) 4 (by omega)
  obtain ⟨p1, p2⟩ := wide_parts _ _ h1 h2 (outM_val (u_lt a) (u_lt b)) (wideHi a b) (a * b) (wide_hi_nat a b) (BitVec.toNat_mul a b)
  exact Pure.by_run mixed _ 100 _ _ (ref_Wide_run a b) (by simp) (SameR.tup2 (SameV.u4 p1) (SameV.u4 p2))
noncomputable def c_ref_Wide : Ctr Try.prog := Ctr.u2 60 wideOut ref_Wide_ok
noncomputable def XMulR : EnvX Try.prog := { cs := [c_ref_Wide], fis := [fi_truceref02_Mul], lcs := [] }
theorem ref_Mul_run (a b : BitVec 256) : (callX XMulR (exec XMulR 100) 62 [.u a, .u b] [] 0).map (fun r => (r.1, r.2.1)) = some ([], .u (a * b)) := by kernel_rfl
theorem ref_Mul_ok (a b : BitVec 256) : Pure Try.prog 62 [.u a, .u b] (.u (a * b)) := Pure.by_run mixed XMulR 100 _ _ (ref_Mul_run a b) (by simp) (SameV.u rfl).r
noncomputable def c_ref_Mul : Ctr Try.prog := Ctr.u2 62 (fun a b => .u (a * b)) ref_Mul_ok
end Go.Proofs.Ytakmgioeldbkcaa

/- Contracts: numbers as digits of 32 bits (mul.split). -/
namespace Go.Proofs.Ytakmgioeldbkcaa
open Go Go.RowKit

noncomputable def XSp : EnvX Try.prog := { cs := [], fis := [fi_mul_split], lcs := [] }
def dig2 (a : BitVec 256) (i : Nat) : List Int := [iand .u64 (limb a i) 4294967295, ishr .u64 (limb a i) 32]
def digs (a : BitVec 256) : List Int := dig2 a 0 ++ dig2 a 1 ++ dig2 a 2 ++ dig2 a 3
theorem split1_run (a : BitVec 256) : (callX XSp (exec XSp 200) 102 [.sl 0 [(0, 0, 4)] 1 1] [some ⟨24, .agg [.u a], false⟩] 1).map (fun r => (r.1, r.2.1)) = some ([], .ints .u64 17 (digs a ++ List.replicate 9 0)) := by kernel_rfl
theorem split2_run (a b : BitVec 256) : (callX XSp (exec XSp 200) 102 [.sl 0 [(0, 0, 4)] 2 2] [some ⟨24, .agg [.u a, .u b], false⟩] 1).map (fun r => (r.1, r.2.1)) = some ([], .ints .u64 17 (digs a ++ digs b ++ [0])) := by kernel_rfl
def splitG : AV → Path → Nat → Nat → List AV → Option (List Bool × AV)
  | .agg [.u a], [(0, 0, 4)], 1, 1, [] => some ([], .ints .u64 17 (digs a ++ List.replicate 9 0))
  | .agg [.u a, .u b], [(0, 0, 4)], 2, 2, [] => some ([], .ints .u64 17 (digs a ++ digs b ++ [0]))
  | _, _, _, _, _ => none
noncomputable def c_split : Ctr Try.prog := Ctr.ofS 102 24 splitG (by
  intro x p n c args ob v h _
  unfold splitG at h
  split at h <;> try contradiction
  · simp at h; obtain ⟨_, rfl⟩ := h
    exact PureS.by_run mixed XSp 200 _ _ _ _ _ _ _ (split1_run _) (by simp) (SameV.ints rfl).r
  · simp at h; obtain ⟨_, rfl⟩ := h
    exact PureS.by_run mixed XSp 200 _ _ _ _ _ _ _ (split2_run _ _) (by simp) (SameV.ints rfl).r)

noncomputable def XJo : EnvX Try.prog := { cs := [], fis := [fi_mul_digits_join], lcs := [] }
def joinL (l : List Int) : List Int := (List.range 4).map fun k => ior .u64 (l.getD (2 * k) 0) (ishl .u64 (l.getD (2 * k + 1) 0) 32)
theorem join_run (l : List Int) : (callX XJo (exec XJo 200) 104 [.ints .u64 17 l, .int .i64 0] [] 0).map (fun r => (r.1, r.2.1)) = some ([], .ints .u64 4 (joinL l)) := by kernel_rfl
end Go.Proofs.Ytakmgioeldbkcaa

/- Plain arithmetic: numbers as rows of digits of 32 bits. -/
namespace Go.Proofs.Ytakmgioeldbkcaa
open Go Go.RowKit

def b32 : Nat := 4294967296
theorem b32_pos (k : Nat) : 0 < b32 ^ k := Nat.pow_pos (by decide)

/-- A number's digit. -/
def dgt (x k : Nat) : Nat := x / b32 ^ k % b32
theorem dgt_lt (x k : Nat) : dgt x k < b32 := Nat.mod_lt _ (by decide)
/-- A number's first digits. -/
def dg (n x : Nat) : List Int := (List.range n).map fun i => ((dgt x i : Nat) : Int)
theorem dg_length (n x : Nat) : (dg n x).length = n := by simp [dg]
theorem dg_getD {n x k : Nat} (h : k < n) : (dg n x).getD k 0 = ((dgt x k : Nat) : Int) := by
  simp [dg, List.getD, h]

/-- A number with one digit turned. -/
def dset (x k v : Nat) : Nat := x % b32 ^ k + b32 ^ k * (v + b32 * (x / b32 ^ (k + 1)))
theorem dgt_dset {x k v j : Nat} (hv : v < b32) : dgt (dset x k v) j = if j = k then v else dgt x j := by
  unfold dgt dset
  have hk := b32_pos k
  split
  · rename_i h; subst h
    rw [Nat.add_mul_div_left _ _ hk, Nat.div_eq_of_lt (Nat.mod_lt _ hk), Nat.zero_add, Nat.add_mul_mod_self_left, Nat.mod_eq_of_lt hv]
  · rename_i h
    rcases Nat.lt_or_ge j k with hj | hj
    · have e : b32 ^ k = b32 ^ j * (b32 * b32 ^ (k - j - 1)) := by
        rw [← Nat.mul_assoc, ← Nat.pow_succ, ← Nat.pow_add]; congr 1; omega
      have e1 : x % b32 ^ k + b32 ^ k * (v + b32 * (x / b32 ^ (k + 1))) = x % b32 ^ k + b32 ^ j * (b32 * (b32 ^ (k - j - 1) * (v + b32 * (x / b32 ^ (k + 1))))) := by
        conv => lhs; rw [e]
        simp only [Nat.mul_assoc, e]
      rw [e1, Nat.add_mul_div_left _ _ (b32_pos j), Nat.add_mul_mod_self_left, e, Nat.mod_mul_right_div_self, Nat.mod_mul_right_mod]
    · have hj : k + 1 ≤ j := by omega
      have e : b32 ^ j = b32 ^ (k + 1) * b32 ^ (j - (k + 1)) := by rw [← Nat.pow_add]; congr 1; omega
      rw [e, ← Nat.div_div_eq_div_mul, ← Nat.div_div_eq_div_mul]
      congr 2
      have e2 : x % b32 ^ k + b32 ^ k * (v + b32 * (x / b32 ^ (k + 1))) = (x % b32 ^ k + b32 ^ k * v) + b32 ^ (k + 1) * (x / b32 ^ (k + 1)) := by
        rw [Nat.mul_add, Nat.pow_succ, Nat.mul_assoc, Nat.add_assoc]
      rw [e2, Nat.add_mul_div_left _ _ (b32_pos (k + 1)), Nat.div_eq_of_lt, Nat.zero_add]
      have h1 := Nat.mod_lt x hk
      have h2 : b32 ^ k * v ≤ b32 ^ k * (b32 - 1) := Nat.mul_le_mul_left _ (by omega)
      have h3 : b32 ^ (k + 1) = b32 ^ k * (b32 - 1) + b32 ^ k := by rw [Nat.pow_succ, ← Nat.mul_succ]; rfl
      omega
theorem dg_set {n x k v : Nat} (hv : v < b32) : (dg n x).set k (v : Int) = dg n (dset x k v) := by
  apply List.ext_getElem
  · simp [dg]
  · intro i h1 h2
    simp only [List.getElem_set, dg, List.getElem_map, List.getElem_range, dgt_dset hv]
    by_cases h : k = i
    · subst h; simp
    · rw [if_neg h, if_neg (fun e => h e.symm)]

theorem dgt_split (x k : Nat) : x = x % b32 ^ k + b32 ^ k * (dgt x k + b32 * (x / b32 ^ (k + 1))) := by
  unfold dgt
  rw [Nat.pow_succ, ← Nat.div_div_eq_div_mul, Nat.mod_add_div, Nat.mod_add_div]
theorem dg_ext {n x y : Nat} (h : ∀ k, k < n → dgt x k = dgt y k) : dg n x = dg n y := by
  apply List.ext_getElem
  · simp [dg]
  · intro i h1 h2
    simp only [dg, List.getElem_map, List.getElem_range]
    rw [h i (by simpa [dg] using h1)]
theorem dg_mod (n x : Nat) : dg n (x % b32 ^ n) = dg n x := by
  refine dg_ext fun k hk => ?_
  unfold dgt
  have e : b32 ^ n = b32 ^ k * (b32 * b32 ^ (n - k - 1)) := by
    rw [← Nat.mul_assoc, ← Nat.pow_succ, ← Nat.pow_add]; congr 1; omega
  rw [e, Nat.mod_mul_right_div_self, Nat.mod_mul_right_mod]

/-- The number of a row of digits. -/
def valI : List Int → Nat
  | [] => 0
  | d :: l => d.toNat + b32 * valI l
theorem dg_succ (n x : Nat) : dg (n + 1) x = ((x % b32 : Nat) : Int) :: dg n (x / b32) := by
  unfold dg
  rw [List.range_succ_eq_map]
  simp only [List.map_cons, List.map_map]
  congr 1
  · simp [dgt]
  · apply List.map_congr_left
    intro i _
    simp only [Function.comp, dgt, Nat.pow_succ]
    rw [Nat.mul_comm, ← Nat.div_div_eq_div_mul]
theorem valI_dg : ∀ (n x : Nat), valI (dg n x) = x % b32 ^ n
  | 0, x => by simp [dg, valI, Nat.mod_one]
  | n + 1, x => by
    rw [dg_succ, valI, valI_dg n, Int.toNat_natCast, Nat.pow_succ, Nat.mul_comm (b32 ^ n), Nat.mod_mul]
def isDg (l : List Int) : Bool := l == dg 17 (valI l)
theorem isDg_dg (x : Nat) : isDg (dg 17 x) = true := by
  unfold isDg
  rw [valI_dg, dg_mod]; simp
theorem isDg_eq {l : List Int} (h : isDg l = true) : l = dg 17 (valI l) := by simpa [isDg] using h
theorem valI_lt {l : List Int} (h : isDg l = true) : valI l < b32 ^ 17 := by
  rw [isDg_eq h, valI_dg]; exact Nat.mod_lt _ (b32_pos 17)

/-! ### How many digits -/
def nd (x : Nat) : Nat → Nat
  | 0 => 0
  | n + 1 => if dgt x n = 0 then nd x n else n + 1
theorem nd_le (x : Nat) : ∀ n, nd x n ≤ n
  | 0 => Nat.le_refl 0
  | n + 1 => by unfold nd; split; exact Nat.le_succ_of_le (nd_le x n); exact Nat.le_refl _
theorem nd_lt {x : Nat} : ∀ n, x < b32 ^ n → x < b32 ^ nd x n
  | 0, h => h
  | n + 1, h => by
    unfold nd
    split
    · rename_i h0
      refine nd_lt n ?_
      have : x / b32 ^ n < b32 := by rw [Nat.div_lt_iff_lt_mul (b32_pos n), Nat.mul_comm, ← Nat.pow_succ]; exact h
      unfold dgt at h0
      rw [Nat.mod_eq_of_lt this] at h0
      exact (Nat.div_eq_zero_iff_lt (b32_pos n)).1 h0
    · exact h
theorem nd_top {x : Nat} : ∀ n, nd x n ≠ 0 → dgt x (nd x n - 1) ≠ 0
  | 0, h => absurd rfl h
  | n + 1, h => by
    unfold nd at h ⊢
    split
    · rename_i h0; rw [if_pos h0] at h; exact nd_top n h
    · assumption
theorem nd_ge {x : Nat} {n : Nat} (h : nd x n ≠ 0) : b32 ^ (nd x n - 1) ≤ x := by
  have := nd_top n h
  unfold dgt at this
  rcases Nat.lt_or_ge x (b32 ^ (nd x n - 1)) with h1 | h1
  · rw [Nat.div_eq_of_lt h1] at this; exact absurd rfl this
  · exact h1
theorem nd_zero {x n : Nat} (h : nd x n = 0) (hx : x < b32 ^ n) : x = 0 := by
  have := nd_lt n hx
  rw [h] at this; simpa using this
end Go.Proofs.Ytakmgioeldbkcaa

/- Plain arithmetic: operations on integers that are natural numbers; digits by parts. -/
namespace Go.Proofs.Ytakmgioeldbkcaa
open Go Go.RowKit

theorem toNat_ofInt (x : Nat) : (BitVec.ofInt 64 (x : Int)) = BitVec.ofNat 64 x := by
  apply BitVec.eq_of_toNat_eq; simp [BitVec.toNat_ofInt]
theorem iand_nat {x y : Nat} (hx : x < 18446744073709551616) : iand .u64 (x : Int) (y : Int) = ((x &&& y : Nat) : Int) := by
  unfold iand
  show IntKind.u64.wrap (((BitVec.ofInt 64 (x : Int) &&& BitVec.ofInt 64 (y : Int)).toNat : Nat) : Int) = _
  rw [wrap_nat, toNat_ofInt, toNat_ofInt, BitVec.toNat_and, BitVec.toNat_ofNat, BitVec.toNat_ofNat]
  have h1 : x % 2 ^ 64 = x := Nat.mod_eq_of_lt hx
  rw [h1]
  have h2 : x &&& y % 2 ^ 64 = x &&& y := by
    apply Nat.eq_of_testBit_eq
    intro i
    rw [Nat.testBit_and, Nat.testBit_and, Nat.testBit_mod_two_pow]
    by_cases hi : i < 64
    · simp [hi]
    · have : x.testBit i = false := Nat.testBit_lt_two_pow (Nat.lt_of_lt_of_le hx (by rw [show (18446744073709551616 : Nat) = 2 ^ 64 from rfl]; exact Nat.pow_le_pow_right (by decide) (by omega)))
      simp [this]
  rw [h2, Nat.mod_eq_of_lt (Nat.lt_of_le_of_lt Nat.and_le_left hx)]
theorem ior_nat {x y : Nat} (hx : x < 18446744073709551616) (hy : y < 18446744073709551616) : ior .u64 (x : Int) (y : Int) = ((x ||| y : Nat) : Int) := by
  unfold ior
  show IntKind.u64.wrap (((BitVec.ofInt 64 (x : Int) ||| BitVec.ofInt 64 (y : Int)).toNat : Nat) : Int) = _
  rw [wrap_nat, toNat_ofInt, toNat_ofInt, BitVec.toNat_or, BitVec.toNat_ofNat, BitVec.toNat_ofNat]
  have h1 : x % 2 ^ 64 = x := Nat.mod_eq_of_lt hx
  have h2 : y % 2 ^ 64 = y := Nat.mod_eq_of_lt hy
  rw [h1, h2, Nat.mod_eq_of_lt]
  exact Nat.or_lt_two_pow (n := 64) hx hy
theorem ishl_nat {x k : Nat} (hk : k ≤ 64) : ishl .u64 (x : Int) (k : Int) = ((x * 2 ^ k % 18446744073709551616 : Nat) : Int) := by
  unfold ishl
  rw [show (min ((k : Int).toNat) IntKind.u64.bits) = k by show min ((k : Int).toNat) 64 = k; simp; omega]
  rw [show ((x : Int) * 2 ^ k) = ((x * 2 ^ k : Nat) : Int) by push_cast; rfl, wrap_nat]
theorem ishl_fit {x k : Nat} (hk : k ≤ 64) (h : x * 2 ^ k < 18446744073709551616) : ishl .u64 (x : Int) (k : Int) = ((x * 2 ^ k : Nat) : Int) := by
  rw [ishl_nat hk, Nat.mod_eq_of_lt h]
theorem wrap_sub_u64 {a b : Nat} (h : b ≤ a) (ha : a < 18446744073709551616) : IntKind.wrap .u64 ((a : Int) - (b : Int)) = ((a - b : Nat) : Int) := by
  rw [← Int.natCast_sub h, wrap_id (by omega)]
theorem wrapi_add {a b : Nat} (h : a + b ≤ 4611686018427387904) : IntKind.wrap .i64 ((a : Int) + (b : Int)) = ((a + b : Nat) : Int) := by
  rw [wrap_i64_id (by omega) (by omega)]; omega
theorem wrapi_one {a : Nat} (h : a + 1 ≤ 4611686018427387904) : IntKind.wrap .i64 ((a : Int) + 1) = ((a + 1 : Nat) : Int) := wrapi_add (b := 1) h
theorem wrapi_sub {a b : Nat} (h : b ≤ a) (ha : a ≤ 4611686018427387904) : IntKind.wrap .i64 ((a : Int) - (b : Int)) = ((a - b : Nat) : Int) := by
  rw [wrap_i64_id (by omega) (by omega)]; omega
theorem wrap_i64_in {n : Int} (h0 : -4611686018427387904 ≤ n) (h1 : n ≤ 4611686018427387904) : IntKind.i64.wrap n = n := by
  simp [IntKind.wrap, IntKind.signed, IntKind.bits]; omega
theorem dg_set_mod (n x k v : Nat) : (dg n x).set k ((v % 4294967296 : Nat) : Int) = dg n (dset x k (v % b32)) := dg_set (Nat.mod_lt _ (by decide))
/-- (Not by 'rfl': where a term stands behind it that the kernel must not undo.) -/
theorem toNat_c (n : Nat) : Int.toNat (n : Int) = n := by omega
theorem tdiv_nat (a b : Nat) : Int.tdiv (a : Int) (b : Int) = ((a / b : Nat) : Int) := rfl
theorem tmod_nat (a b : Nat) : Int.tmod (a : Int) (b : Int) = ((a % b : Nat) : Int) := rfl
theorem or_shift {x y k : Nat} (hy : y < 2 ^ k) : (x * 2 ^ k ||| y) = x * 2 ^ k + y := by
  rw [← Nat.shiftLeft_eq, Nat.shiftLeft_add_eq_or_of_lt hy]
theorem or_shift' {x y k : Nat} (hy : y < 2 ^ k) : (y ||| x * 2 ^ k) = y + x * 2 ^ k := by
  rw [Nat.or_comm, or_shift hy, Nat.add_comm]
theorem and_low32 (x : Nat) : x &&& 4294967295 = x % 4294967296 := Nat.and_two_pow_sub_one_eq_mod x 32

/-! ### A digit in its place -/
theorem form_dgt {p i d h : Nat} (hp : p < b32 ^ i) (hd : d < b32) : dgt (p + b32 ^ i * (d + b32 * h)) i = d := by
  unfold dgt
  rw [Nat.add_mul_div_left _ _ (b32_pos i), Nat.div_eq_of_lt hp, Nat.zero_add, Nat.add_mul_mod_self_left, Nat.mod_eq_of_lt hd]
theorem form_dset {p i d h v : Nat} (hp : p < b32 ^ i) (hd : d < b32) : dset (p + b32 ^ i * (d + b32 * h)) i v = p + b32 ^ i * (v + b32 * h) := by
  unfold dset
  have h1 : (p + b32 ^ i * (d + b32 * h)) % b32 ^ i = p := by rw [Nat.add_mul_mod_self_left, Nat.mod_eq_of_lt hp]
  have h2 : (p + b32 ^ i * (d + b32 * h)) / b32 ^ (i + 1) = h := by
    rw [Nat.pow_succ, ← Nat.div_div_eq_div_mul, Nat.add_mul_div_left _ _ (b32_pos i), Nat.div_eq_of_lt hp, Nat.zero_add, Nat.add_mul_div_left _ _ (by decide), Nat.div_eq_of_lt hd, Nat.zero_add]
  rw [h1, h2]
theorem form_eq (x i : Nat) : x = x % b32 ^ i + b32 ^ i * (dgt x i + b32 * (x / b32 ^ (i + 1))) := dgt_split x i
theorem mod_lt32 (x i : Nat) : x % b32 ^ i < b32 ^ i := Nat.mod_lt _ (b32_pos i)
theorem mod_next (x i : Nat) : x % b32 ^ (i + 1) = x % b32 ^ i + b32 ^ i * dgt x i := by
  rw [Nat.pow_succ, Nat.mod_mul]; rfl
theorem div_next (x i : Nat) : x / b32 ^ i = dgt x i + b32 * (x / b32 ^ (i + 1)) := by
  unfold dgt
  rw [Nat.pow_succ, ← Nat.div_div_eq_div_mul, Nat.mod_add_div]
end Go.Proofs.Ytakmgioeldbkcaa

/- Contracts: long division (mul): the loops' rounds. -/
namespace Go.Proofs.Ytakmgioeldbkcaa
open Go Go.RowKit
noncomputable def up_X : EnvT Try.prog := { fis := [fi_mul_digits_up] }
noncomputable def up_st (l : List Int) (s : Int) (v1 : Int) (v2 : Int) (v3 : List Int) : KS := ⟨⟨pat' [(1, (.int .u64 s)), (2, (.ptr 0 [])), (4, (.ptr 1 [])), (5, (.int .u64 v1)), (8, (.ints .u64 17 l)), (9, (.int .i64 v2))] 0 26, [(some ⟨73, (.ints .u64 17 v3), true⟩), (some ⟨73, (.ints .u64 17 [(0 : Int), (0 : Int), (0 : Int), (0 : Int), (0 : Int), (0 : Int), (0 : Int), (0 : Int), (0 : Int), (0 : Int), (0 : Int), (0 : Int), (0 : Int), (0 : Int), (0 : Int), (0 : Int), (0 : Int)]), true⟩)], 2⟩, kpat [2, 4] 0 26, [false, true]⟩
theorem up_body (l : List Int) (s : Int) (v1 : Int) (v2 : Int) (v3 : List Int) : stepT up_X 100 fi_mul_digits_up [0, 1, 0, 1, 1] [1, 2, 4, 5, 8, 9] 2 (kpat [2, 4] 0 26) [false, true] (up_st l s v1 v2 v3) =
    (.ite (decide (v2 < (17 : Int)))
     (.need ((decide ((0 : Int) ≤ v2)) && (decide (v2 < (17 : Int))))
     (.need (Nat.ble ((Int.toNat v2) + 1) 17)
     (.need (decide ((0 : Int) ≤ s))
     (.need ((decide ((0 : Int) ≤ v2)) && (decide (v2 < (17 : Int))))
     (.need (Nat.ble ((Int.toNat v2) + 1) 17)
     (.leaf (.normal, up_st l s (ishr .u64 (ior .u64 v1 (ishl .u64 (List.getD l (Int.toNat v2) (0 : Int)) s)) (32 : Int)) (IntKind.wrap .i64 (v2 + (1 : Int))) (List.set v3 (Int.toNat v2) (iand .u64 (ior .u64 v1 (ishl .u64 (List.getD l (Int.toNat v2) (0 : Int)) s)) (4294967295 : Int))))))))))
     (.leaf ((.exit 0), up_st l s v1 v2 v3))) := by kernel_rfl
theorem up_rule {σ : Type} (st : σ → KS) (Inv : σ → Prop) (μ : σ → Nat) (R : Ex → St → Prop) (hH : ∀ v, (st v).s.H.length ≤ 2) (hstep : ∀ v, Inv v → ∃ X : EnvT Try.prog, (stepT X 100 fi_mul_digits_up [0, 1, 0, 1, 1] [1, 2, 4, 5, 8, 9] 2 (kpat [2, 4] 0 26) [false, true] (st v)).holds (Round st Inv μ R v)) (v0 : σ) (h0 : Inv v0) : CodeR Try.prog (.loop (loopAt fi_mul_digits_up [0, 1, 0, 1, 1])) (st v0).s R :=
  loop_rule mixed fi_mul_digits_up [0, 1, 0, 1, 1] [1, 2, 4, 5, 8, 9] 2 (kpat [2, 4] 0 26) [false, true] st 100 Inv μ R (loop_sub' (c := loopAt fi_mul_digits_up [0, 1, 0, 1, 1]) (by kernel_rfl)) hH hstep v0 h0
-- entry: up_st l s (0 : Int) (0 : Int) l

noncomputable def short_X : EnvT Try.prog := { fis := [fi_mul_digits_short] }
noncomputable def short_st (l : List Int) (s : Int) (v1 : Int) (v2 : Int) (v3 : List Int) : KS := ⟨⟨pat' [(1, (.int .u64 s)), (2, (.ptr 0 [])), (4, (.ptr 1 [])), (5, (.int .u64 (0 : Int))), (6, (.int .u64 v1)), (7, (.int .i64 v2))] 0 28, [(some ⟨73, (.ints .u64 17 v3), true⟩), (some ⟨73, (.ints .u64 17 [(0 : Int), (0 : Int), (0 : Int), (0 : Int), (0 : Int), (0 : Int), (0 : Int), (0 : Int), (0 : Int), (0 : Int), (0 : Int), (0 : Int), (0 : Int), (0 : Int), (0 : Int), (0 : Int), (0 : Int)]), true⟩)], 2⟩, kpat [2, 4, 5] 0 28, [false, true]⟩
theorem short_body (l : List Int) (s : Int) (v1 : Int) (v2 : Int) (v3 : List Int) : stepT short_X 100 fi_mul_digits_short [0, 1, 0, 1, 1] [1, 2, 4, 5, 6, 7] 2 (kpat [2, 4, 5] 0 28) [false, true] (short_st l s v1 v2 v3) =
    (.ite (decide (v2 ≥ (0 : Int)))
     (.need ((decide ((0 : Int) ≤ v2)) && (decide (v2 < (17 : Int))))
     (.need (Nat.ble ((Int.toNat v2) + 1) 17)
     (.need (!(decide (s = (0 : Int))))
     (.need (!(decide (s = (0 : Int))))
     (.need ((decide ((0 : Int) ≤ v2)) && (decide (v2 < (17 : Int))))
     (.need (Nat.ble ((Int.toNat v2) + 1) 17)
     (.leaf (.normal, short_st l s (Int.tmod (ior .u64 (ishl .u64 v1 (32 : Int)) (List.getD v3 (Int.toNat v2) (0 : Int))) s) (IntKind.wrap .i64 (v2 - (1 : Int))) (List.set v3 (Int.toNat v2) (IntKind.wrap .u64 (Int.tdiv (ior .u64 (ishl .u64 v1 (32 : Int)) (List.getD v3 (Int.toNat v2) (0 : Int))) s)))))))))))
     (.leaf ((.exit 0), short_st l s v1 v2 v3))) := by kernel_rfl
theorem short_rule {σ : Type} (st : σ → KS) (Inv : σ → Prop) (μ : σ → Nat) (R : Ex → St → Prop) (hH : ∀ v, (st v).s.H.length ≤ 2) (hstep : ∀ v, Inv v → ∃ X : EnvT Try.prog, (stepT X 100 fi_mul_digits_short [0, 1, 0, 1, 1] [1, 2, 4, 5, 6, 7] 2 (kpat [2, 4, 5] 0 28) [false, true] (st v)).holds (Round st Inv μ R v)) (v0 : σ) (h0 : Inv v0) : CodeR Try.prog (.loop (loopAt fi_mul_digits_short [0, 1, 0, 1, 1])) (st v0).s R :=
  loop_rule mixed fi_mul_digits_short [0, 1, 0, 1, 1] [1, 2, 4, 5, 6, 7] 2 (kpat [2, 4, 5] 0 28) [false, true] st 100 Inv μ R (loop_sub' (c := loopAt fi_mul_digits_short [0, 1, 0, 1, 1]) (by kernel_rfl)) hH hstep v0 h0
-- entry: short_st l s (0 : Int) (16 : Int) l

noncomputable def less_X : EnvT Try.prog := { fis := [fi_mul_digits_less] }
noncomputable def less_st (u : List Int) (w : List Int) (g : Int) (a : Int) (n : Int) (v1 : Int) (v2 : Int) (v3 : List Int) : KS := ⟨⟨pat' [(0, (.ptr 0 [])), (2, (.int .u64 g)), (3, (.int .i64 a)), (4, (.int .i64 n)), (6, (.ptr 1 [])), (10, (.bool false)), (11, (.int .u64 v1)), (15, (.int .i64 n)), (16, (.int .i64 v2))] 0 89, [(some ⟨73, (.ints .u64 17 v3), true⟩), (some ⟨73, (.ints .u64 17 w), true⟩)], 2⟩, kpat [6, 10] 0 89, [false, false]⟩
theorem less_body (u : List Int) (w : List Int) (g : Int) (a : Int) (n : Int) (v1 : Int) (v2 : Int) (v3 : List Int) : stepT less_X 100 fi_mul_digits_less [0, 1, 0, 1, 1] [0, 2, 3, 4, 6, 10, 11, 15, 16] 2 (kpat [6, 10] 0 89) [false, false] (less_st u w g a n v1 v2 v3) =
    (.ite (decide (v2 < n))
     (.need ((decide ((0 : Int) ≤ v2)) && (decide (v2 < (17 : Int))))
     (.need (Nat.ble ((Int.toNat v2) + 1) 17)
     (.need ((decide ((0 : Int) ≤ (IntKind.wrap .i64 (a + v2)))) && (decide ((IntKind.wrap .i64 (a + v2)) < (17 : Int))))
     (.need (Nat.ble ((Int.toNat (IntKind.wrap .i64 (a + v2))) + 1) 17)
     (.ite (decide ((List.getD v3 (Int.toNat (IntKind.wrap .i64 (a + v2))) (0 : Int)) < (iand .u64 (IntKind.wrap .u64 (v1 + (IntKind.wrap .u64 (g * (List.getD w (Int.toNat v2) (0 : Int)))))) (4294967295 : Int))))
      (.need ((decide ((0 : Int) ≤ (IntKind.wrap .i64 (a + v2)))) && (decide ((IntKind.wrap .i64 (a + v2)) < (17 : Int))))
      (.need (Nat.ble ((Int.toNat (IntKind.wrap .i64 (a + v2))) + 1) 17)
      (.need ((decide ((0 : Int) ≤ (IntKind.wrap .i64 (a + v2)))) && (decide ((IntKind.wrap .i64 (a + v2)) < (17 : Int))))
      (.need (Nat.ble ((Int.toNat (IntKind.wrap .i64 (a + v2))) + 1) 17)
      (.need ((decide ((0 : Int) ≤ (IntKind.wrap .i64 (a + v2)))) && (decide ((IntKind.wrap .i64 (a + v2)) < (17 : Int))))
      (.need (Nat.ble ((Int.toNat (IntKind.wrap .i64 (a + v2))) + 1) 17)
      (.need ((decide ((0 : Int) ≤ (IntKind.wrap .i64 (a + v2)))) && (decide ((IntKind.wrap .i64 (a + v2)) < (17 : Int))))
      (.need (Nat.ble ((Int.toNat (IntKind.wrap .i64 (a + v2))) + 1) 17)
      (.leaf (.normal, less_st u w g a n (IntKind.wrap .u64 ((ishr .u64 (IntKind.wrap .u64 (v1 + (IntKind.wrap .u64 (g * (List.getD w (Int.toNat v2) (0 : Int)))))) (32 : Int)) + (1 : Int))) (IntKind.wrap .i64 (v2 + (1 : Int))) (List.set (List.set v3 (Int.toNat (IntKind.wrap .i64 (a + v2))) (IntKind.wrap .u64 ((List.getD v3 (Int.toNat (IntKind.wrap .i64 (a + v2))) (0 : Int)) + (4294967296 : Int)))) (Int.toNat (IntKind.wrap .i64 (a + v2))) (IntKind.wrap .u64 ((List.getD (List.set v3 (Int.toNat (IntKind.wrap .i64 (a + v2))) (IntKind.wrap .u64 ((List.getD v3 (Int.toNat (IntKind.wrap .i64 (a + v2))) (0 : Int)) + (4294967296 : Int)))) (Int.toNat (IntKind.wrap .i64 (a + v2))) (0 : Int)) - (iand .u64 (IntKind.wrap .u64 (v1 + (IntKind.wrap .u64 (g * (List.getD w (Int.toNat v2) (0 : Int)))))) (4294967295 : Int)))))))))))))))
      (.need ((decide ((0 : Int) ≤ (IntKind.wrap .i64 (a + v2)))) && (decide ((IntKind.wrap .i64 (a + v2)) < (17 : Int))))
      (.need (Nat.ble ((Int.toNat (IntKind.wrap .i64 (a + v2))) + 1) 17)
      (.need ((decide ((0 : Int) ≤ (IntKind.wrap .i64 (a + v2)))) && (decide ((IntKind.wrap .i64 (a + v2)) < (17 : Int))))
      (.need (Nat.ble ((Int.toNat (IntKind.wrap .i64 (a + v2))) + 1) 17)
      (.leaf (.normal, less_st u w g a n (ishr .u64 (IntKind.wrap .u64 (v1 + (IntKind.wrap .u64 (g * (List.getD w (Int.toNat v2) (0 : Int)))))) (32 : Int)) (IntKind.wrap .i64 (v2 + (1 : Int))) (List.set v3 (Int.toNat (IntKind.wrap .i64 (a + v2))) (IntKind.wrap .u64 ((List.getD v3 (Int.toNat (IntKind.wrap .i64 (a + v2))) (0 : Int)) - (iand .u64 (IntKind.wrap .u64 (v1 + (IntKind.wrap .u64 (g * (List.getD w (Int.toNat v2) (0 : Int)))))) (4294967295 : Int))))))))))))))))
     (.leaf ((.exit 0), less_st u w g a n v1 v2 v3))) := by kernel_rfl
theorem less_rule {σ : Type} (st : σ → KS) (Inv : σ → Prop) (μ : σ → Nat) (R : Ex → St → Prop) (hH : ∀ v, (st v).s.H.length ≤ 2) (hstep : ∀ v, Inv v → ∃ X : EnvT Try.prog, (stepT X 100 fi_mul_digits_less [0, 1, 0, 1, 1] [0, 2, 3, 4, 6, 10, 11, 15, 16] 2 (kpat [6, 10] 0 89) [false, false] (st v)).holds (Round st Inv μ R v)) (v0 : σ) (h0 : Inv v0) : CodeR Try.prog (.loop (loopAt fi_mul_digits_less [0, 1, 0, 1, 1])) (st v0).s R :=
  loop_rule mixed fi_mul_digits_less [0, 1, 0, 1, 1] [0, 2, 3, 4, 6, 10, 11, 15, 16] 2 (kpat [6, 10] 0 89) [false, false] st 100 Inv μ R (loop_sub' (c := loopAt fi_mul_digits_less [0, 1, 0, 1, 1]) (by kernel_rfl)) hH hstep v0 h0
-- entry: less_st u w g a n (0 : Int) (0 : Int) u

noncomputable def more_X : EnvT Try.prog := { fis := [fi_mul_digits_more] }
noncomputable def more_st (u : List Int) (w : List Int) (a : Int) (n : Int) (v1 : Int) (v2 : Int) (v3 : List Int) : KS := ⟨⟨pat' [(0, (.ptr 0 [])), (2, (.int .i64 a)), (3, (.int .i64 n)), (5, (.ptr 1 [])), (8, (.int .u64 v1)), (10, (.int .i64 n)), (11, (.int .i64 v2))] 0 54, [(some ⟨73, (.ints .u64 17 v3), true⟩), (some ⟨73, (.ints .u64 17 w), true⟩)], 2⟩, kpat [5] 0 54, [false, false]⟩
theorem more_body (u : List Int) (w : List Int) (a : Int) (n : Int) (v1 : Int) (v2 : Int) (v3 : List Int) : stepT more_X 100 fi_mul_digits_more [0, 1, 0, 1, 1] [0, 2, 3, 5, 8, 10, 11] 2 (kpat [5] 0 54) [false, false] (more_st u w a n v1 v2 v3) =
    (.ite (decide (v2 < n))
     (.need ((decide ((0 : Int) ≤ (IntKind.wrap .i64 (a + v2)))) && (decide ((IntKind.wrap .i64 (a + v2)) < (17 : Int))))
     (.need (Nat.ble ((Int.toNat (IntKind.wrap .i64 (a + v2))) + 1) 17)
     (.need ((decide ((0 : Int) ≤ v2)) && (decide (v2 < (17 : Int))))
     (.need (Nat.ble ((Int.toNat v2) + 1) 17)
     (.need ((decide ((0 : Int) ≤ (IntKind.wrap .i64 (a + v2)))) && (decide ((IntKind.wrap .i64 (a + v2)) < (17 : Int))))
     (.need (Nat.ble ((Int.toNat (IntKind.wrap .i64 (a + v2))) + 1) 17)
     (.leaf (.normal, more_st u w a n (ishr .u64 (IntKind.wrap .u64 (v1 + (IntKind.wrap .u64 ((List.getD v3 (Int.toNat (IntKind.wrap .i64 (a + v2))) (0 : Int)) + (List.getD w (Int.toNat v2) (0 : Int)))))) (32 : Int)) (IntKind.wrap .i64 (v2 + (1 : Int))) (List.set v3 (Int.toNat (IntKind.wrap .i64 (a + v2))) (iand .u64 (IntKind.wrap .u64 (v1 + (IntKind.wrap .u64 ((List.getD v3 (Int.toNat (IntKind.wrap .i64 (a + v2))) (0 : Int)) + (List.getD w (Int.toNat v2) (0 : Int)))))) (4294967295 : Int)))))))))))
     (.leaf ((.exit 0), more_st u w a n v1 v2 v3))) := by kernel_rfl
theorem more_rule {σ : Type} (st : σ → KS) (Inv : σ → Prop) (μ : σ → Nat) (R : Ex → St → Prop) (hH : ∀ v, (st v).s.H.length ≤ 2) (hstep : ∀ v, Inv v → ∃ X : EnvT Try.prog, (stepT X 100 fi_mul_digits_more [0, 1, 0, 1, 1] [0, 2, 3, 5, 8, 10, 11] 2 (kpat [5] 0 54) [false, false] (st v)).holds (Round st Inv μ R v)) (v0 : σ) (h0 : Inv v0) : CodeR Try.prog (.loop (loopAt fi_mul_digits_more [0, 1, 0, 1, 1])) (st v0).s R :=
  loop_rule mixed fi_mul_digits_more [0, 1, 0, 1, 1] [0, 2, 3, 5, 8, 10, 11] 2 (kpat [5] 0 54) [false, false] st 100 Inv μ R (loop_sub' (c := loopAt fi_mul_digits_more [0, 1, 0, 1, 1]) (by kernel_rfl)) hH hstep v0 h0
-- entry: more_st u w a n (0 : Int) (0 : Int) u

noncomputable def down_X : EnvT Try.prog := { fis := [fi_mul_digits_down] }
noncomputable def down_st (l : List Int) (s : Int) (n : Int) (v1 : Int) (v2 : List Int) : KS := ⟨⟨pat' [(1, (.int .u64 s)), (2, (.int .i64 n)), (3, (.ptr 0 [])), (6, (.ptr 1 [])), (7, (.ptr 2 [])), (9, (.int .i64 n)), (10, (.int .i64 v1))] 0 39, [(some ⟨73, (.ints .u64 17 l), true⟩), (some ⟨73, (.ints .u64 17 [(0 : Int), (0 : Int), (0 : Int), (0 : Int), (0 : Int), (0 : Int), (0 : Int), (0 : Int), (0 : Int), (0 : Int), (0 : Int), (0 : Int), (0 : Int), (0 : Int), (0 : Int), (0 : Int), (0 : Int)]), true⟩), (some ⟨73, (.ints .u64 17 v2), true⟩)], 3⟩, kpat [3, 6, 7] 0 39, [false, true, false]⟩
theorem down_body (l : List Int) (s : Int) (n : Int) (v1 : Int) (v2 : List Int) : stepT down_X 100 fi_mul_digits_down [0, 1, 0, 1, 1] [1, 2, 3, 6, 7, 9, 10] 3 (kpat [3, 6, 7] 0 39) [false, true, false] (down_st l s n v1 v2) =
    (.ite (decide (v1 < n))
     (.need ((decide ((0 : Int) ≤ v1)) && (decide (v1 < (17 : Int))))
     (.need (Nat.ble ((Int.toNat v1) + 1) 17)
     (.need (decide ((0 : Int) ≤ s))
     (.need ((decide ((0 : Int) ≤ v1)) && (decide (v1 < (17 : Int))))
     (.need (Nat.ble ((Int.toNat v1) + 1) 17)
     (.ite (decide ((IntKind.wrap .i64 (v1 + (1 : Int))) < n))
      (.need ((decide ((0 : Int) ≤ v1)) && (decide (v1 < (17 : Int))))
      (.need (Nat.ble ((Int.toNat v1) + 1) 17)
      (.need ((decide ((0 : Int) ≤ (IntKind.wrap .i64 (v1 + (1 : Int))))) && (decide ((IntKind.wrap .i64 (v1 + (1 : Int))) < (17 : Int))))
      (.need (Nat.ble ((Int.toNat (IntKind.wrap .i64 (v1 + (1 : Int)))) + 1) 17)
      (.need (decide ((0 : Int) ≤ (IntKind.wrap .u64 ((32 : Int) - s))))
      (.need ((decide ((0 : Int) ≤ v1)) && (decide (v1 < (17 : Int))))
      (.need (Nat.ble ((Int.toNat v1) + 1) 17)
      (.leaf (.normal, down_st l s n (IntKind.wrap .i64 (v1 + (1 : Int))) (List.set (List.set v2 (Int.toNat v1) (ishr .u64 (List.getD l (Int.toNat v1) (0 : Int)) s)) (Int.toNat v1) (ior .u64 (List.getD (List.set v2 (Int.toNat v1) (ishr .u64 (List.getD l (Int.toNat v1) (0 : Int)) s)) (Int.toNat v1) (0 : Int)) (iand .u64 (ishl .u64 (List.getD l (Int.toNat (IntKind.wrap .i64 (v1 + (1 : Int)))) (0 : Int)) (IntKind.wrap .u64 ((32 : Int) - s))) (4294967295 : Int)))))))))))))
      (.leaf (.normal, down_st l s n (IntKind.wrap .i64 (v1 + (1 : Int))) (List.set v2 (Int.toNat v1) (ishr .u64 (List.getD l (Int.toNat v1) (0 : Int)) s))))))))))
     (.leaf ((.exit 0), down_st l s n v1 v2))) := by kernel_rfl
theorem down_rule {σ : Type} (st : σ → KS) (Inv : σ → Prop) (μ : σ → Nat) (R : Ex → St → Prop) (hH : ∀ v, (st v).s.H.length ≤ 3) (hstep : ∀ v, Inv v → ∃ X : EnvT Try.prog, (stepT X 100 fi_mul_digits_down [0, 1, 0, 1, 1] [1, 2, 3, 6, 7, 9, 10] 3 (kpat [3, 6, 7] 0 39) [false, true, false] (st v)).holds (Round st Inv μ R v)) (v0 : σ) (h0 : Inv v0) : CodeR Try.prog (.loop (loopAt fi_mul_digits_down [0, 1, 0, 1, 1])) (st v0).s R :=
  loop_rule mixed fi_mul_digits_down [0, 1, 0, 1, 1] [1, 2, 3, 6, 7, 9, 10] 3 (kpat [3, 6, 7] 0 39) [false, true, false] st 100 Inv μ R (loop_sub' (c := loopAt fi_mul_digits_down [0, 1, 0, 1, 1]) (by kernel_rfl)) hH hstep v0 h0
-- entry: down_st l s n (0 : Int) [(0 : Int), (0 : Int), (0 : Int), (0 : Int), (0 : Int), (0 : Int), (0 : Int), (0 : Int), (0 : Int), (0 : Int), (0 : Int), (0 : Int), (0 : Int), (0 : Int), (0 : Int), (0 : Int), (0 : Int)]

noncomputable def guess_X : EnvT Try.prog := { fis := [fi_mul_digits_guess] }
noncomputable def guess_st (u : List Int) (w : List Int) (a : Int) (n : Int) (v1 : Int) (v2 : Int) : KS := ⟨⟨pat' [(2, (.int .i64 a)), (3, (.int .i64 n)), (4, (.ptr 0 [])), (5, (.ptr 1 [])), (8, (.int .u64 (0 : Int))), (10, (.int .u64 v1)), (11, (.int .u64 v2))] 0 68, [(some ⟨73, (.ints .u64 17 u), true⟩), (some ⟨73, (.ints .u64 17 w), true⟩)], 2⟩, kpat [4, 5, 8] 0 68, [false, false]⟩
theorem guess_body (u : List Int) (w : List Int) (a : Int) (n : Int) (v1 : Int) (v2 : Int) : stepT guess_X 100 fi_mul_digits_guess [0, 0, 1, 1, 1, 0, 1] [2, 3, 4, 5, 8, 10, 11] 2 (kpat [4, 5, 8] 0 68) [false, false] (guess_st u w a n v1 v2) =
    (.ite (decide (v1 > (4294967295 : Int)))
     (.need ((decide ((0 : Int) ≤ (IntKind.wrap .i64 (n - (1 : Int))))) && (decide ((IntKind.wrap .i64 (n - (1 : Int))) < (17 : Int))))
     (.need (Nat.ble ((Int.toNat (IntKind.wrap .i64 (n - (1 : Int)))) + 1) 17)
     (.ite (decide ((IntKind.wrap .u64 (v2 + (List.getD w (Int.toNat (IntKind.wrap .i64 (n - (1 : Int)))) (0 : Int)))) > (4294967295 : Int)))
      (.leaf ((.exit 0), guess_st u w a n (IntKind.wrap .u64 (v1 - (1 : Int))) (IntKind.wrap .u64 (v2 + (List.getD w (Int.toNat (IntKind.wrap .i64 (n - (1 : Int)))) (0 : Int))))))
      (.leaf (.normal, guess_st u w a n (IntKind.wrap .u64 (v1 - (1 : Int))) (IntKind.wrap .u64 (v2 + (List.getD w (Int.toNat (IntKind.wrap .i64 (n - (1 : Int)))) (0 : Int)))))))))
     (.need ((decide ((0 : Int) ≤ (IntKind.wrap .i64 (n - (2 : Int))))) && (decide ((IntKind.wrap .i64 (n - (2 : Int))) < (17 : Int))))
     (.need (Nat.ble ((Int.toNat (IntKind.wrap .i64 (n - (2 : Int)))) + 1) 17)
     (.need ((decide ((0 : Int) ≤ (IntKind.wrap .i64 ((IntKind.wrap .i64 (a + n)) - (2 : Int))))) && (decide ((IntKind.wrap .i64 ((IntKind.wrap .i64 (a + n)) - (2 : Int))) < (17 : Int))))
     (.need (Nat.ble ((Int.toNat (IntKind.wrap .i64 ((IntKind.wrap .i64 (a + n)) - (2 : Int)))) + 1) 17)
     (.ite (decide ((IntKind.wrap .u64 (v1 * (List.getD w (Int.toNat (IntKind.wrap .i64 (n - (2 : Int)))) (0 : Int)))) > (ior .u64 (ishl .u64 v2 (32 : Int)) (List.getD u (Int.toNat (IntKind.wrap .i64 ((IntKind.wrap .i64 (a + n)) - (2 : Int)))) (0 : Int)))))
      (.need ((decide ((0 : Int) ≤ (IntKind.wrap .i64 (n - (1 : Int))))) && (decide ((IntKind.wrap .i64 (n - (1 : Int))) < (17 : Int))))
      (.need (Nat.ble ((Int.toNat (IntKind.wrap .i64 (n - (1 : Int)))) + 1) 17)
      (.ite (decide ((IntKind.wrap .u64 (v2 + (List.getD w (Int.toNat (IntKind.wrap .i64 (n - (1 : Int)))) (0 : Int)))) > (4294967295 : Int)))
       (.leaf ((.exit 0), guess_st u w a n (IntKind.wrap .u64 (v1 - (1 : Int))) (IntKind.wrap .u64 (v2 + (List.getD w (Int.toNat (IntKind.wrap .i64 (n - (1 : Int)))) (0 : Int))))))
       (.leaf (.normal, guess_st u w a n (IntKind.wrap .u64 (v1 - (1 : Int))) (IntKind.wrap .u64 (v2 + (List.getD w (Int.toNat (IntKind.wrap .i64 (n - (1 : Int)))) (0 : Int)))))))))
      (.leaf ((.exit 0), guess_st u w a n v1 v2)))))))) := by kernel_rfl
theorem guess_rule {σ : Type} (st : σ → KS) (Inv : σ → Prop) (μ : σ → Nat) (R : Ex → St → Prop) (hH : ∀ v, (st v).s.H.length ≤ 2) (hstep : ∀ v, Inv v → ∃ X : EnvT Try.prog, (stepT X 100 fi_mul_digits_guess [0, 0, 1, 1, 1, 0, 1] [2, 3, 4, 5, 8, 10, 11] 2 (kpat [4, 5, 8] 0 68) [false, false] (st v)).holds (Round st Inv μ R v)) (v0 : σ) (h0 : Inv v0) : CodeR Try.prog (.loop (loopAt fi_mul_digits_guess [0, 0, 1, 1, 1, 0, 1])) (st v0).s R :=
  loop_rule mixed fi_mul_digits_guess [0, 0, 1, 1, 1, 0, 1] [2, 3, 4, 5, 8, 10, 11] 2 (kpat [4, 5, 8] 0 68) [false, false] st 100 Inv μ R (loop_sub' (c := loopAt fi_mul_digits_guess [0, 0, 1, 1, 1, 0, 1]) (by kernel_rfl)) hH hstep v0 h0
-- entry: guess_st u w a n (IntKind.wrap .u64 (Int.tdiv (ior .u64 (ishl .u64 (List.getD u (Int.toNat (IntKind.wrap .i64 (a + n))) (0 : Int)) (32 : Int)) (List.getD u (Int.toNat (IntKind.wrap .i64 ((IntKind.wrap .i64 (a + n)) - (1 : Int)))) (0 : Int))) (List.getD w (Int.toNat (IntKind.wrap .i64 (n - (1 : Int)))) (0 : Int)))) (Int.tmod (ior .u64 (ishl .u64 (List.getD u (Int.toNat (IntKind.wrap .i64 (a + n))) (0 : Int)) (32 : Int)) (List.getD u (Int.toNat (IntKind.wrap .i64 ((IntKind.wrap .i64 (a + n)) - (1 : Int)))) (0 : Int))) (List.getD w (Int.toNat (IntKind.wrap .i64 (n - (1 : Int)))) (0 : Int)))

end Go.Proofs.Ytakmgioeldbkcaa

/- Plain arithmetic: digits shifted up and down, divided by one digit, a multiple taken away, a number added. -/
namespace Go.Proofs.Ytakmgioeldbkcaa
open Go Go.RowKit

theorem low_div {L i t : Nat} (hL : L < b32 ^ i) : (L + b32 ^ i * t) / b32 ^ (i + 1) = t / b32 ∧ (L + b32 ^ i * t) % b32 ^ (i + 1) = L + b32 ^ i * (t % b32) := by
  have h1 : (L + b32 ^ i * t) / b32 ^ i = t := by rw [Nat.add_mul_div_left _ _ (b32_pos i), Nat.div_eq_of_lt hL, Nat.zero_add]
  have h2 : (L + b32 ^ i * t) % b32 ^ i = L := by rw [Nat.add_mul_mod_self_left, Nat.mod_eq_of_lt hL]
  constructor
  · rw [Nat.pow_succ, ← Nat.div_div_eq_div_mul, h1]
  · rw [Nat.pow_succ, Nat.mod_mul, h1, h2]

/-! ### Up -/
def upC (x s i : Nat) : Nat := x % b32 ^ i * 2 ^ s / b32 ^ i
def upY (x s i : Nat) : Nat := x % b32 ^ i * 2 ^ s % b32 ^ i + b32 ^ i * (x / b32 ^ i)
theorem up_zero (x s : Nat) : upC x s 0 = 0 ∧ upY x s 0 = x := by
  unfold upC upY; simp [Nat.mod_one]
theorem upC_lt (x s i : Nat) : upC x s i < 2 ^ s := by
  unfold upC
  rw [Nat.div_lt_iff_lt_mul (b32_pos i), Nat.mul_comm (2 ^ s)]
  exact (Nat.mul_lt_mul_right (Nat.pow_pos (by decide))).2 (mod_lt32 x i)
theorem up_next (x s i : Nat) : upC x s (i + 1) = (upC x s i + dgt x i * 2 ^ s) / b32 ∧ upY x s (i + 1) = dset (upY x s i) i ((upC x s i + dgt x i * 2 ^ s) % b32) := by
  have e : x % b32 ^ (i + 1) * 2 ^ s = x % b32 ^ i * 2 ^ s % b32 ^ i + b32 ^ i * (upC x s i + dgt x i * 2 ^ s) := by
    have h := Nat.mod_add_div (x % b32 ^ i * 2 ^ s) (b32 ^ i)
    rw [mod_next, Nat.add_mul, Nat.mul_add, ← Nat.mul_assoc, ← Nat.add_assoc]
    unfold upC
    rw [h]
  obtain ⟨h1, h2⟩ := low_div (t := upC x s i + dgt x i * 2 ^ s) (mod_lt32 (x % b32 ^ i * 2 ^ s) i)
  constructor
  · unfold upC at h1 ⊢
    rw [e]; exact h1
  · conv => rhs; unfold upY
    rw [div_next x i, form_dset (mod_lt32 _ i) (dgt_lt x i)]
    unfold upY
    rw [e, h2, Nat.mul_add, ← Nat.add_assoc, ← Nat.mul_assoc, ← Nat.pow_succ]
theorem up_last {x s n : Nat} (hx : x < b32 ^ n) : dg n (upY x s n) = dg n (x * 2 ^ s) := by
  unfold upY
  rw [Nat.div_eq_of_lt hx, Nat.mul_zero, Nat.add_zero, Nat.mod_eq_of_lt hx, dg_mod]

/-! ### By one digit: from the top on; 'i' digits are left -/
def shR (x d i : Nat) : Nat := x / b32 ^ i % d
def shY (x d i : Nat) : Nat := x % b32 ^ i + b32 ^ i * (x / b32 ^ i / d)
theorem sh_step {x d i : Nat} (hd : 0 < d) (hdb : d ≤ b32) : (shR x d (i + 1) * b32 + dgt x i) / d < b32 ∧ shR x d i = (shR x d (i + 1) * b32 + dgt x i) % d ∧
    shY x d i = x % b32 ^ i + b32 ^ i * ((shR x d (i + 1) * b32 + dgt x i) / d + b32 * (x / b32 ^ (i + 1) / d)) := by
  have hr : shR x d (i + 1) < d := Nat.mod_lt _ hd
  have hg := dgt_lt x i
  have e : x / b32 ^ i = (shR x d (i + 1) * b32 + dgt x i) + d * (b32 * (x / b32 ^ (i + 1) / d)) := by
    rw [div_next x i]
    have h := Nat.mod_add_div (x / b32 ^ (i + 1)) d
    unfold shR
    conv => lhs; rw [← h]
    rw [Nat.mul_add, Nat.mul_comm b32 (x / b32 ^ (i + 1) % d), ← Nat.mul_assoc, Nat.mul_comm b32 d, Nat.mul_assoc]
    omega
  refine ⟨?_, ?_, ?_⟩
  · rw [Nat.div_lt_iff_lt_mul hd]
    have : (shR x d (i + 1) + 1) * b32 ≤ d * b32 := Nat.mul_le_mul_right _ hr
    rw [Nat.mul_comm b32 d]
    rw [Nat.add_mul] at this
    omega
  · conv => lhs; unfold shR
    rw [e, Nat.add_mul_mod_self_left]
  · unfold shY
    rw [e, Nat.add_mul_div_left _ _ hd]
theorem sh_last (x d : Nat) : shR x d 0 = x % d ∧ shY x d 0 = x / d := by
  unfold shR shY; simp [Nat.mod_one]
theorem sh_first {x d n : Nat} (hx : x < b32 ^ n) : shR x d n = 0 ∧ shY x d n = x := by
  unfold shR shY; rw [Nat.div_eq_of_lt hx]; simp [Nat.mod_eq_of_lt hx]

/-! ### A window: 'lo' below it, 'n' digits and one more, 'hi' above -/
/-- 'g' times 'v' taken away: the first 'i' digits, and what is borrowed. -/
def lsB (W v g i : Nat) : Nat := (g * (v % b32 ^ i) + b32 ^ i - 1 - W % b32 ^ i) / b32 ^ i
def lsW (W v g i : Nat) : Nat := W % b32 ^ i + b32 ^ i * lsB W v g i - g * (v % b32 ^ i)
theorem ls_ok (W v g i : Nat) : W % b32 ^ i + b32 ^ i * lsB W v g i = lsW W v g i + g * (v % b32 ^ i) ∧ lsW W v g i < b32 ^ i := by
  have hp := b32_pos i
  have hw := mod_lt32 W i
  unfold lsW lsB
  generalize g * (v % b32 ^ i) = m
  generalize W % b32 ^ i = a at *
  generalize b32 ^ i = p at *
  have h := Nat.mod_add_div (m + p - 1 - a) p
  have h2 := Nat.mod_lt (m + p - 1 - a) hp
  generalize (m + p - 1 - a) / p = q at *
  generalize (m + p - 1 - a) % p = r at *
  generalize p * q = pq at *
  omega
theorem ls_uniq {a m p b w b' w' : Nat} (h : a + p * b = w + m) (hw : w < p) (h' : a + p * b' = w' + m) (hw' : w' < p) : b = b' ∧ w = w' := by
  have e : b = b' := by
    rcases Nat.lt_trichotomy b b' with h1 | h1 | h1
    · have : p * (b + 1) ≤ p * b' := Nat.mul_le_mul_left _ h1
      rw [Nat.mul_add] at this; omega
    · exact h1
    · have : p * (b' + 1) ≤ p * b := Nat.mul_le_mul_left _ h1
      rw [Nat.mul_add] at this; omega
  subst e
  exact ⟨rfl, by omega⟩
theorem ls_zero (W v g : Nat) : lsB W v g 0 = 0 ∧ lsW W v g 0 = 0 := by
  unfold lsW lsB; simp [Nat.mod_one]
theorem ls_next (W v g i : Nat) : lsB W v g (i + 1) = (lsB W v g i + g * dgt v i) / b32 + (if dgt W i < (lsB W v g i + g * dgt v i) % b32 then 1 else 0) ∧
    lsW W v g (i + 1) = lsW W v g i + b32 ^ i * (if dgt W i < (lsB W v g i + g * dgt v i) % b32 then dgt W i + b32 - (lsB W v g i + g * dgt v i) % b32 else dgt W i - (lsB W v g i + g * dgt v i) % b32) := by
  obtain ⟨h1, h2⟩ := ls_ok W v g i
  obtain ⟨h3, h4⟩ := ls_ok W v g (i + 1)
  generalize hb : lsB W v g i = b at *
  generalize hw : lsW W v g i = w at *
  have hd := dgt_lt W i
  generalize hD0 : dgt W i = D at *
  have hm := Nat.mod_add_div (b + g * dgt v i) b32
  have hml := Nat.mod_lt (b + g * dgt v i) (show 0 < b32 by decide)
  generalize hq : (b + g * dgt v i) / b32 = q at *
  generalize hr : (b + g * dgt v i) % b32 = r at *
  have key : W % b32 ^ (i + 1) + b32 ^ (i + 1) * (q + (if D < r then 1 else 0)) = (w + b32 ^ i * (if D < r then D + b32 - r else D - r)) + g * (v % b32 ^ (i + 1)) := by
    rw [mod_next W, mod_next v, Nat.mul_add g, Nat.pow_succ]
    have e1 : g * (b32 ^ i * dgt v i) = b32 ^ i * (g * dgt v i) := by rw [← Nat.mul_assoc, Nat.mul_comm g, Nat.mul_assoc]
    rw [e1]
    have e2 : g * dgt v i = r + b32 * q - b := by omega
    have hle : b ≤ r + b32 * q := by omega
    have e3 : b32 ^ i * (g * dgt v i) + b32 ^ i * b = b32 ^ i * (r + b32 * q) := by rw [← Nat.mul_add]; congr 1; omega
    rw [hD0]
    split
    · have e5 : b32 ^ i * (D + b32 - r) + b32 ^ i * r = b32 ^ i * (D + b32) := by rw [← Nat.mul_add]; congr 1; omega
      have e6 : b32 ^ i * b32 * (q + 1) = b32 ^ i * (b32 * q) + b32 ^ i * b32 := by rw [Nat.mul_add, Nat.mul_one, Nat.mul_assoc]
      rw [e6]
      rw [Nat.mul_add] at e3 e5
      omega
    · have e5 : b32 ^ i * (D - r) + b32 ^ i * r = b32 ^ i * D := by rw [← Nat.mul_add]; congr 1; omega
      have e6 : b32 ^ i * b32 * (q + 0) = b32 ^ i * (b32 * q) := by rw [Nat.add_zero, Nat.mul_assoc]
      rw [e6]
      rw [Nat.mul_add] at e3
      omega
  have kl : (w + b32 ^ i * (if D < r then D + b32 - r else D - r)) < b32 ^ (i + 1) := by
    have : (if D < r then D + b32 - r else D - r) ≤ b32 - 1 := by split <;> omega
    have h := Nat.mul_le_mul_left (b32 ^ i) this
    have e : b32 ^ (i + 1) = b32 ^ i * (b32 - 1) + b32 ^ i := by rw [Nat.pow_succ, ← Nat.mul_succ]; rfl
    omega
  exact ls_uniq h3 h4 key kl
theorem ls_lt {W v g i : Nat} (hg : g < b32) : lsB W v g i ≤ b32 - 1 := by
  obtain ⟨h1, h2⟩ := ls_ok W v g i
  have hv := mod_lt32 v i
  have hw := mod_lt32 W i
  have : g * (v % b32 ^ i) ≤ (b32 - 1) * (v % b32 ^ i) := Nat.mul_le_mul_right _ (by omega)
  have h4 : (b32 - 1) * (v % b32 ^ i) ≤ (b32 - 1) * (b32 ^ i - 1) := Nat.mul_le_mul_left _ (by omega)
  have h5 : (b32 - 1) * (b32 ^ i - 1) + (b32 - 1) = b32 ^ i * (b32 - 1) := by
    rw [← Nat.mul_succ, Nat.mul_comm]; congr 1; omega
  generalize W % b32 ^ i = a at *
  rcases Nat.lt_or_ge (b32 - 1) (lsB W v g i) with h | h
  · have h6 : b32 ^ i * (b32 - 1 + 1) ≤ b32 ^ i * lsB W v g i := Nat.mul_le_mul_left _ h
    rw [Nat.mul_add] at h6
    omega
  · exact h

/-- 'v' added: the first 'i' digits, and what is carried. -/
def mrW (W v i : Nat) : Nat := (W % b32 ^ i + v % b32 ^ i) % b32 ^ i
def mrC (W v i : Nat) : Nat := (W % b32 ^ i + v % b32 ^ i) / b32 ^ i
theorem mr_zero (W v : Nat) : mrW W v 0 = 0 ∧ mrC W v 0 = 0 := by unfold mrW mrC; simp [Nat.mod_one]
theorem mr_next (W v i : Nat) : mrC W v (i + 1) = (mrC W v i + (dgt W i + dgt v i)) / b32 ∧ mrW W v (i + 1) = mrW W v i + b32 ^ i * ((mrC W v i + (dgt W i + dgt v i)) % b32) := by
  have e : W % b32 ^ (i + 1) + v % b32 ^ (i + 1) = mrW W v i + b32 ^ i * (mrC W v i + (dgt W i + dgt v i)) := by
    have h := Nat.mod_add_div (W % b32 ^ i + v % b32 ^ i) (b32 ^ i)
    unfold mrW mrC
    rw [mod_next W, mod_next v, Nat.mul_add, Nat.mul_add]
    omega
  obtain ⟨h1, h2⟩ := low_div (t := mrC W v i + (dgt W i + dgt v i)) (show mrW W v i < b32 ^ i from Nat.mod_lt _ (b32_pos i))
  constructor
  · conv => lhs; unfold mrC
    rw [e, h1]
  · conv => lhs; unfold mrW
    rw [e, h2]
theorem mrC_le (W v i : Nat) : mrC W v i ≤ 1 := by
  unfold mrC
  have h1 := mod_lt32 W i
  have h2 := mod_lt32 v i
  have := Nat.div_lt_of_lt_mul (show W % b32 ^ i + v % b32 ^ i < b32 ^ i * 2 by omega)
  omega

/-! ### Down -/
theorem down_dgt {x s i n : Nat} (hs : s < 32) : dgt (x % b32 ^ n / 2 ^ s) i = if i < n then (dgt x i / 2 ^ s + (if i + 1 < n then dgt x (i + 1) * 2 ^ (32 - s) % b32 else 0)) else 0 := by
  have h2 : 0 < 2 ^ s := Nat.pow_pos (by decide)
  have hb : b32 = 2 ^ s * 2 ^ (32 - s) := by rw [← Nat.pow_add, show s + (32 - s) = 32 by omega]; rfl
  split
  · rename_i hi
    unfold dgt
    rw [Nat.div_div_eq_div_mul, Nat.mul_comm (2 ^ s), ← Nat.div_div_eq_div_mul]
    have e1 : x % b32 ^ n / b32 ^ i = (x / b32 ^ i) % b32 ^ (n - i) := by
      have : b32 ^ n = b32 ^ i * b32 ^ (n - i) := by rw [← Nat.pow_add]; congr 1; omega
      rw [this, Nat.mod_mul_right_div_self]
    rw [e1]
    have e2 : x / b32 ^ (i + 1) = x / b32 ^ i / b32 := by rw [Nat.pow_succ, Nat.div_div_eq_div_mul]
    rw [e2]
    generalize x / b32 ^ i = y
    split
    · rename_i hi2
      obtain ⟨k, hk⟩ : ∃ k, n - i = k + 2 := ⟨n - i - 2, by omega⟩
      rw [hk]
      have e3 : y % b32 ^ (k + 2) = y % b32 + b32 * ((y / b32) % b32 ^ (k + 1)) := by rw [Nat.pow_succ, Nat.mul_comm, Nat.mod_mul]
      have e4 : (y / b32) % b32 ^ (k + 1) = (y / b32) % b32 + b32 * ((y / b32 / b32) % b32 ^ k) := by rw [Nat.pow_succ, Nat.mul_comm, Nat.mod_mul]
      rw [e3, e4]
      generalize hd1 : (y / b32) % b32 = d1
      generalize hd0 : y % b32 = d0
      have l0 : d0 < b32 := by rw [← hd0]; exact Nat.mod_lt _ (by decide)
      have e5 : d0 + b32 * (d1 + b32 * ((y / b32 / b32) % b32 ^ k)) = d0 + 2 ^ s * (2 ^ (32 - s) * (d1 + b32 * ((y / b32 / b32) % b32 ^ k))) := by
        conv => lhs; rw [show b32 * (d1 + b32 * ((y / b32 / b32) % b32 ^ k)) = (2 ^ s * 2 ^ (32 - s)) * (d1 + b32 * ((y / b32 / b32) % b32 ^ k)) by rw [← hb]]
        rw [Nat.mul_assoc]
      rw [e5, Nat.add_mul_div_left _ _ h2, Nat.mul_add, ← Nat.mul_assoc, Nat.mul_comm (2 ^ (32 - s)) b32, Nat.mul_assoc, ← Nat.add_assoc, Nat.add_mul_mod_self_left, Nat.mul_comm (2 ^ (32 - s)) d1]
      have l1 : d0 / 2 ^ s < 2 ^ (32 - s) := by rw [Nat.div_lt_iff_lt_mul h2, Nat.mul_comm, ← hb]; exact l0
      have e6 : d1 * 2 ^ (32 - s) % b32 = 2 ^ (32 - s) * (d1 % 2 ^ s) := by rw [hb, Nat.mul_comm d1, Nat.mul_comm (2 ^ s), Nat.mul_mod_mul_left]
      rw [Nat.add_mod, e6, Nat.mod_eq_of_lt (show d0 / 2 ^ s < b32 by rw [hb]; exact Nat.lt_of_lt_of_le l1 (Nat.le_mul_of_pos_left _ h2)), Nat.mod_eq_of_lt]
      have : 2 ^ (32 - s) * (d1 % 2 ^ s + 1) ≤ 2 ^ (32 - s) * 2 ^ s := Nat.mul_le_mul_left _ (Nat.mod_lt _ h2)
      rw [Nat.mul_add, Nat.mul_comm (2 ^ (32 - s)) (2 ^ s), ← hb] at this
      omega
    · have : n - i = 1 := by omega
      rw [this, Nat.pow_one, Nat.add_zero]
      refine Nat.mod_eq_of_lt ?_
      exact Nat.lt_of_le_of_lt (Nat.div_le_self _ _) (Nat.mod_lt _ (by decide))
  · rename_i hi
    unfold dgt
    have : x % b32 ^ n / 2 ^ s / b32 ^ i = 0 := by
      refine Nat.div_eq_of_lt (Nat.lt_of_le_of_lt (Nat.div_le_self _ _) (Nat.lt_of_lt_of_le (mod_lt32 x n) (Nat.pow_le_pow_right (by decide) (by omega))))
    rw [this]; rfl
end Go.Proofs.Ytakmgioeldbkcaa

/- Contracts: long division (mul): the loops. -/
namespace Go.Proofs.Ytakmgioeldbkcaa
open Go Go.RowKit

theorem in17 {i : Nat} (h : i < 17) : ((decide ((0 : Int) ≤ (i : Int))) && (decide ((i : Int) < (17 : Int)))) = true := by simp; omega
theorem ble17 {i : Nat} (h : i < 17) : (Nat.ble ((Int.toNat (i : Int)) + 1) 17) = true := by simp; omega
theorem pow_lt32 {s : Nat} (hs : s < 32) : 2 ^ s ≤ 2147483648 := by
  have : 2 ^ s ≤ 2 ^ 31 := Nat.pow_le_pow_right (by decide) (by omega)
  exact this

/-! ### up -/
theorem up_math {c d s : Nat} (hs : s < 32) (hc : c < 2 ^ s) (hd : d < b32) : ior .u64 (c : Int) (ishl .u64 (d : Int) (s : Int)) = ((c + d * 2 ^ s : Nat) : Int) ∧ c + d * 2 ^ s < 18446744073709551616 := by
  have h1 := pow_lt32 hs
  have h2 : d * 2 ^ s ≤ 4294967295 * 2147483648 := Nat.mul_le_mul (by unfold b32 at hd; omega) h1
  rw [ishl_fit (by omega) (by omega), ior_nat (by omega) (by omega), or_shift' hc]
  exact ⟨rfl, by omega⟩
theorem up_loop (x s : Nat) (hx : x < b32 ^ 17) (hs : s < 32) : CodeR Try.prog (.loop (loopAt fi_mul_digits_up [0, 1, 0, 1, 1])) (up_st (dg 17 x) s 0 0 (dg 17 x)).s
    (fun e s' => e = .exit 0 ∧ s' = (up_st (dg 17 x) s (upC x s 17 : Nat) 17 (dg 17 (x * 2 ^ s))).s) := by
  refine CodeR.of_sim (up_rule (σ := Nat) (fun i => up_st (dg 17 x) s (upC x s i : Nat) (i : Nat) (dg 17 (upY x s i))) (fun i => i ≤ 17) (fun i => 17 - i) _ (fun _ => Nat.le_refl 2) ?_ 0 (by omega)) ?_
  · intro i hi
    refine ⟨up_X, ?_⟩
    rw [up_body]
    refine ⟨fun hc => ?_, fun hc => ?_⟩
    · have hi : i < 17 := by simp at hc; omega
      have hd := dgt_lt x i
      obtain ⟨e1, e2⟩ := up_math hs (upC_lt x s i) hd
      obtain ⟨n1, n2⟩ := up_next x s i
      refine ⟨in17 hi, ble17 hi, by simp, in17 hi, ble17 hi, i + 1, by omega, by dsimp only; omega, Sim.of_eq ?_⟩
      simp only [Int.toNat_natCast, dg_getD hi, e1, ishr_32, wrapi_one (show i + 1 ≤ 4611686018427387904 by omega)]
      rw [show (4294967295 : Int) = ((4294967295 : Nat) : Int) from rfl, iand_nat e2, and_low32, dg_set_mod]
      rw [n1, n2]; rfl
    · have hi : i = 17 := by simp at hc; omega
      subst hi
      exact ⟨rfl, by rw [← up_last hx]; rfl⟩
  · rw [(up_zero x s).1, (up_zero x s).2]; exact Sim.refl _

/-! ### short -/
theorem short_loop (x d : Nat) (hx : x < b32 ^ 17) (hd : 0 < d) (hdb : d < b32) : CodeR Try.prog (.loop (loopAt fi_mul_digits_short [0, 1, 0, 1, 1])) (short_st (dg 17 x) d 0 16 (dg 17 x)).s
    (fun e s' => e = .exit 0 ∧ s' = (short_st (dg 17 x) d (x % d : Nat) (-1) (dg 17 (x / d))).s) := by
  refine CodeR.of_sim (short_rule (σ := Nat) (fun i => short_st (dg 17 x) d (shR x d i : Nat) ((i : Int) - 1) (dg 17 (shY x d i))) (fun i => i ≤ 17) (fun i => i) _ (fun _ => Nat.le_refl 2) ?_ 17 (by omega)) ?_
  · intro i hi
    refine ⟨short_X, ?_⟩
    rw [short_body]
    refine ⟨fun hc => ?_, fun hc => ?_⟩
    · obtain ⟨k, rfl⟩ : ∃ k, i = k + 1 := ⟨i - 1, by simp at hc; omega⟩
      have hk : k < 17 := by omega
      have hg := dgt_lt x k
      obtain ⟨n1, n2, n3⟩ := sh_step (x := x) (i := k) hd (by omega)
      have e0 : (((k + 1 : Nat) : Int) - 1) = (k : Int) := by omega
      have hr : shR x d (k + 1) < d := Nat.mod_lt _ hd
      have hr2 : shR x d (k + 1) < b32 := by omega
      have e1 : ior .u64 (ishl .u64 (shR x d (k + 1) : Nat) 32) (dgt x k : Nat) = ((shR x d (k + 1) * b32 + dgt x k : Nat) : Int) := by
        have hr3 : shR x d (k + 1) * 2 ^ 32 ≤ 4294967295 * 4294967296 := Nat.mul_le_mul (by unfold b32 at hr2; omega) (by decide)
        have hg' : dgt x k < 2 ^ 32 := hg
        rw [show (32 : Int) = ((32 : Nat) : Int) from rfl, ishl_fit (by omega) (by omega), ior_nat (by omega) (by omega), or_shift hg']
        rfl
      have e3 : shY x d (k + 1) = x % b32 ^ k + b32 ^ k * (dgt x k + b32 * (x / b32 ^ (k + 1) / d)) := by
        unfold shY; rw [mod_next, Nat.mul_add, ← Nat.add_assoc, ← Nat.mul_assoc, ← Nat.pow_succ]
      have e2 : dgt (shY x d (k + 1)) k = dgt x k := by rw [e3, form_dgt (mod_lt32 _ _) hg]
      refine ⟨by rw [e0]; exact in17 hk, by rw [e0]; exact ble17 hk, by simp; omega, by simp; omega, by rw [e0]; exact in17 hk, by rw [e0]; exact ble17 hk, k, by omega, by dsimp only; omega, Sim.of_eq ?_⟩
      simp only [e0, Int.toNat_natCast, dg_getD hk, e2, e1, tdiv_nat, tmod_nat]
      rw [wrap_id (Nat.lt_trans n1 (by decide)), dg_set n1, e3, form_dset (mod_lt32 _ _) hg, ← n3, ← n2, wrap_i64_in (by omega) (by omega)]
    · have hi : i = 0 := by simp at hc; omega
      subst hi
      exact ⟨rfl, by rw [(sh_last x d).1, (sh_last x d).2]; rfl⟩
  · obtain ⟨h1, h2⟩ := sh_first (d := d) hx
    rw [h1, h2]; exact Sim.refl _

/-! ### less, more: a window from 'a' on -/
def winY (x a w W i : Nat) : Nat := x % b32 ^ a + b32 ^ a * (w + b32 ^ i * (W / b32 ^ i))
theorem win_form {x a w W i : Nat} (hw : w < b32 ^ i) : winY x a w W i = (x % b32 ^ a + b32 ^ a * w) + b32 ^ (a + i) * (dgt W i + b32 * (W / b32 ^ (i + 1))) ∧ x % b32 ^ a + b32 ^ a * w < b32 ^ (a + i) := by
  constructor
  · unfold winY
    rw [div_next W i, Nat.mul_add (b32 ^ a), Nat.pow_add b32 a i, ← Nat.mul_assoc, Nat.add_assoc]
  · have h := mod_lt32 x a
    have h2 : b32 ^ a * (w + 1) ≤ b32 ^ a * b32 ^ i := Nat.mul_le_mul_left _ hw
    rw [Nat.mul_add] at h2
    rw [Nat.pow_add]; omega
theorem win_dgt {x a w W i : Nat} (hw : w < b32 ^ i) : dgt (winY x a w W i) (a + i) = dgt W i := by
  obtain ⟨h1, h2⟩ := win_form (x := x) (a := a) (W := W) hw
  rw [h1, form_dgt h2 (dgt_lt _ _)]
theorem win_dset {x a w W i d : Nat} (hw : w < b32 ^ i) : dset (winY x a w W i) (a + i) d = winY x a (w + b32 ^ i * d) W (i + 1) := by
  obtain ⟨h1, h2⟩ := win_form (x := x) (a := a) (W := W) hw
  rw [h1, form_dset h2 (dgt_lt _ _)]
  unfold winY
  rw [Nat.pow_add, Nat.pow_succ]
  simp only [Nat.mul_add, Nat.mul_assoc, Nat.add_assoc]
theorem win_zero (x a : Nat) : winY x a 0 (x / b32 ^ a) 0 = x := by
  unfold winY; simp [Nat.mod_add_div]
theorem getD_set_eq {l : List Int} {j : Nat} {v : Int} (h : j < l.length) : (l.set j v).getD j 0 = v := by
  simp [List.getD, h]

theorem less_loop (x v g a n : Nat) (hg : g < b32) (han : a + n < 17) : CodeR Try.prog (.loop (loopAt fi_mul_digits_less [0, 1, 0, 1, 1])) (less_st (dg 17 x) (dg 17 v) g a n 0 0 (dg 17 x)).s
    (fun e s' => e = .exit 0 ∧ s' = (less_st (dg 17 x) (dg 17 v) g a n (lsB (x / b32 ^ a) v g n : Nat) n (dg 17 (winY x a (lsW (x / b32 ^ a) v g n) (x / b32 ^ a) n))).s) := by
  refine CodeR.of_sim (less_rule (σ := Nat) (fun i => less_st (dg 17 x) (dg 17 v) g a n (lsB (x / b32 ^ a) v g i : Nat) (i : Nat) (dg 17 (winY x a (lsW (x / b32 ^ a) v g i) (x / b32 ^ a) i))) (fun i => i ≤ n) (fun i => n - i) _ (fun _ => Nat.le_refl 2) ?_ 0 (by omega)) ?_
  · intro i hi
    refine ⟨less_X, ?_⟩
    rw [less_body]
    refine ⟨fun hc => ?_, fun hc => ?_⟩
    · have hi : i < n := by simp at hc; omega
      obtain ⟨n1, n2⟩ := ls_next (x / b32 ^ a) v g i
      obtain ⟨_, w1⟩ := ls_ok (x / b32 ^ a) v g i
      have hb := ls_lt (W := x / b32 ^ a) (v := v) (i := i) hg
      have hd := dgt_lt v i
      have hD := dgt_lt (x / b32 ^ a) i
      have hgd : g * dgt v i ≤ 4294967295 * 4294967295 := Nat.mul_le_mul (by unfold b32 at hg; omega) (by unfold b32 at hd; omega)
      have hb' : lsB (x / b32 ^ a) v g i ≤ 4294967295 := hb
      have e1 : IntKind.wrap .i64 ((a : Int) + (i : Int)) = ((a + i : Nat) : Int) := wrapi_add (by omega)
      have e2 : IntKind.wrap .u64 (((lsB (x / b32 ^ a) v g i : Nat) : Int) + IntKind.wrap .u64 ((g : Int) * ((dgt v i : Nat) : Int))) = ((lsB (x / b32 ^ a) v g i + g * dgt v i : Nat) : Int) := by
        rw [wrap_mul (by omega), wrap_add (by omega)]
      have e3 : iand .u64 ((lsB (x / b32 ^ a) v g i + g * dgt v i : Nat) : Int) 4294967295 = (((lsB (x / b32 ^ a) v g i + g * dgt v i) % b32 : Nat) : Int) := by
        rw [show (4294967295 : Int) = ((4294967295 : Nat) : Int) from rfl, iand_nat (by omega), and_low32]; rfl
      have i17 : a + i < 17 := by omega
      have k1 := in17 i17
      have k2 := ble17 i17
      have hB : b32 = 4294967296 := rfl
      have hr := Nat.mod_lt (lsB (x / b32 ^ a) v g i + g * dgt v i) (show 0 < b32 by decide)
      simp only [e1, Int.toNat_natCast, dg_getD (show i < 17 by omega), dg_getD i17, e2, e3, win_dgt w1] at k1 k2 ⊢
      have hq : (lsB (x / b32 ^ a) v g i + g * dgt v i) / 4294967296 ≤ 4294967295 := by omega
      refine ⟨in17 (by omega), ble17 (i := i) (by omega), k1, k2, fun hlt => ?_, fun hlt => ?_⟩
      · have hlt' : dgt (x / b32 ^ a) i < (lsB (x / b32 ^ a) v g i + g * dgt v i) % b32 := Int.ofNat_lt.1 (of_decide_eq_true hlt)
        refine ⟨k1, k2, k1, k2, k1, k2, k1, k2, i + 1, by omega, by dsimp only; omega, Sim.of_eq ?_⟩
        rw [if_pos hlt'] at n1 n2
        rw [wrapi_one (by omega), getD_set_eq (by rw [dg_length]; exact i17), List.set_set, ishr_32, show (1 : Int) = ((1 : Nat) : Int) from rfl, wrap_add (by omega), show (4294967296 : Int) = ((b32 : Nat) : Int) from rfl, wrap_add (by omega),
          wrap_sub_u64 (by omega) (by omega), dg_set (by omega), win_dset w1, ← n2]
        dsimp only
        rw [n1]
        rfl
      · have hlt' : ¬ dgt (x / b32 ^ a) i < (lsB (x / b32 ^ a) v g i + g * dgt v i) % b32 := fun h => of_decide_eq_false hlt (Int.ofNat_lt.2 h)
        refine ⟨k1, k2, k1, k2, i + 1, by omega, by dsimp only; omega, Sim.of_eq ?_⟩
        rw [if_neg hlt'] at n1 n2
        rw [ishr_32, wrap_sub_u64 (by omega) (by omega), dg_set (by omega), win_dset w1, ← n2, wrapi_one (by omega)]
        dsimp only
        rw [n1]
        rfl
    · have hi : i = n := by simp at hc; omega
      subst hi
      exact ⟨rfl, rfl⟩
  · obtain ⟨h1, h2⟩ := ls_zero (x / b32 ^ a) v g
    rw [h1, h2, win_zero]; exact Sim.refl _

theorem more_loop (x v a n : Nat) (han : a + n < 17) : CodeR Try.prog (.loop (loopAt fi_mul_digits_more [0, 1, 0, 1, 1])) (more_st (dg 17 x) (dg 17 v) a n 0 0 (dg 17 x)).s
    (fun e s' => e = .exit 0 ∧ s' = (more_st (dg 17 x) (dg 17 v) a n (mrC (x / b32 ^ a) v n : Nat) n (dg 17 (winY x a (mrW (x / b32 ^ a) v n) (x / b32 ^ a) n))).s) := by
  refine CodeR.of_sim (more_rule (σ := Nat) (fun i => more_st (dg 17 x) (dg 17 v) a n (mrC (x / b32 ^ a) v i : Nat) (i : Nat) (dg 17 (winY x a (mrW (x / b32 ^ a) v i) (x / b32 ^ a) i))) (fun i => i ≤ n) (fun i => n - i) _ (fun _ => Nat.le_refl 2) ?_ 0 (by omega)) ?_
  · intro i hi
    refine ⟨more_X, ?_⟩
    rw [more_body]
    refine ⟨fun hc => ?_, fun hc => ?_⟩
    · have hi : i < n := by simp at hc; omega
      obtain ⟨n1, n2⟩ := mr_next (x / b32 ^ a) v i
      have w1 : mrW (x / b32 ^ a) v i < b32 ^ i := Nat.mod_lt _ (b32_pos i)
      have hb := mrC_le (x / b32 ^ a) v i
      have hd : dgt v i < 4294967296 := dgt_lt v i
      have hD : dgt (x / b32 ^ a) i < 4294967296 := dgt_lt (x / b32 ^ a) i
      have e1 : IntKind.wrap .i64 ((a : Int) + (i : Int)) = ((a + i : Nat) : Int) := wrapi_add (by omega)
      have i17 : a + i < 17 := by omega
      have k1 := in17 i17
      have k2 := ble17 i17
      simp only [e1, Int.toNat_natCast, dg_getD (show i < 17 by omega), dg_getD i17, win_dgt w1] at k1 k2 ⊢
      refine ⟨k1, k2, in17 (by omega), ble17 (i := i) (by omega), k1, k2, i + 1, by omega, by dsimp only; omega, Sim.of_eq ?_⟩
      rw [wrap_add (m := dgt (x / b32 ^ a) i) (by omega), wrap_add (by omega), ishr_32, show (4294967295 : Int) = ((4294967295 : Nat) : Int) from rfl, iand_nat (by omega), and_low32, dg_set_mod, win_dset w1, ← n2, wrapi_one (by omega)]
      dsimp only
      rw [n1]
      rfl
    · have hi : i = n := by simp at hc; omega
      subst hi
      exact ⟨rfl, rfl⟩
  · obtain ⟨h1, h2⟩ := mr_zero (x / b32 ^ a) v
    rw [h1, h2, win_zero]; exact Sim.refl _

/-! ### down -/
theorem dset_low (z i : Nat) : dset (z % b32 ^ i) i (dgt z i) = z % b32 ^ (i + 1) := by
  have e : z % b32 ^ i = z % b32 ^ i + b32 ^ i * (0 + b32 * 0) := by simp
  conv => lhs; rw [e]
  rw [form_dset (mod_lt32 z i) (by decide), mod_next]; simp
theorem dgt_low (z i : Nat) : dgt (z % b32 ^ i) i = 0 := by
  unfold dgt
  rw [Nat.div_eq_of_lt (mod_lt32 z i)]; rfl
theorem zeros17 : [(0 : Int), (0 : Int), (0 : Int), (0 : Int), (0 : Int), (0 : Int), (0 : Int), (0 : Int), (0 : Int), (0 : Int), (0 : Int), (0 : Int), (0 : Int), (0 : Int), (0 : Int), (0 : Int), (0 : Int)] = dg 17 0 := by decide
theorem down_math {d d1 s : Nat} (hs : s < 32) (hd : d < b32) (hd1 : d1 < b32) :
    ior .u64 (ishr .u64 (d : Int) (s : Int)) (iand .u64 (ishl .u64 (d1 : Int) ((32 - s : Nat) : Int)) 4294967295) = ((d / 2 ^ s + d1 * 2 ^ (32 - s) % b32 : Nat) : Int) ∧ d / 2 ^ s + d1 * 2 ^ (32 - s) % b32 < b32 := by
  have h2 : 0 < 2 ^ s := Nat.pow_pos (by decide)
  have hb : b32 = 2 ^ s * 2 ^ (32 - s) := by rw [← Nat.pow_add, show s + (32 - s) = 32 by omega]; rfl
  have l1 : d / 2 ^ s < 2 ^ (32 - s) := by rw [Nat.div_lt_iff_lt_mul h2, Nat.mul_comm, ← hb]; exact hd
  have e6 : d1 * 2 ^ (32 - s) % b32 = (d1 % 2 ^ s) * 2 ^ (32 - s) := by rw [hb, Nat.mul_mod_mul_right]
  have l2 : (d1 % 2 ^ s + 1) * 2 ^ (32 - s) ≤ 2 ^ s * 2 ^ (32 - s) := Nat.mul_le_mul_right _ (Nat.mod_lt _ h2)
  rw [← hb, Nat.add_mul] at l2
  have l3 : d1 * 2 ^ (32 - s) ≤ 4294967295 * 4294967296 := Nat.mul_le_mul (by unfold b32 at hd1; omega) (by
    have : 2 ^ (32 - s) ≤ 2 ^ 32 := Nat.pow_le_pow_right (by decide) (by omega)
    exact this)
  have hB : b32 = 4294967296 := rfl
  have l4 : d / 2 ^ s ≤ d := Nat.div_le_self _ _
  constructor
  · rw [ishr_nat _ _ (by omega), ishl_fit (by omega) (by omega), show (4294967295 : Int) = ((4294967295 : Nat) : Int) from rfl, iand_nat (by omega), and_low32,
      show d1 * 2 ^ (32 - s) % 4294967296 = d1 * 2 ^ (32 - s) % b32 from rfl, ior_nat (by omega) (by omega), e6, or_shift' l1]
  · omega
theorem down_loop (x s n : Nat) (hs : s < 32) (hn : n ≤ 17) : CodeR Try.prog (.loop (loopAt fi_mul_digits_down [0, 1, 0, 1, 1])) (down_st (dg 17 x) s n 0 (dg 17 0)).s
    (fun e s' => e = .exit 0 ∧ s' = (down_st (dg 17 x) s n n (dg 17 (x % b32 ^ n / 2 ^ s))).s) := by
  refine CodeR.of_sim (down_rule (σ := Nat) (fun i => down_st (dg 17 x) s n (i : Nat) (dg 17 (x % b32 ^ n / 2 ^ s % b32 ^ i))) (fun i => i ≤ n) (fun i => n - i) _ (fun _ => Nat.le_refl 3) ?_ 0 (by omega)) ?_
  · intro i hi
    refine ⟨down_X, ?_⟩
    rw [down_body]
    refine ⟨fun hc => ?_, fun hc => ?_⟩
    · have hi : i < n := by simp at hc; omega
      have hdn := down_dgt (x := x) (n := n) (i := i) hs
      rw [if_pos hi] at hdn
      have hd := dgt_lt x i
      have i17 : i < 17 := by omega
      have k1 := in17 i17
      have k2 := ble17 i17
      have l4 : dgt x i / 2 ^ s ≤ dgt x i := Nat.div_le_self _ _
      have e1 := wrapi_one (a := i) (by omega)
      have e2 : IntKind.wrap .u64 ((32 : Int) - (s : Int)) = ((32 - s : Nat) : Int) := wrap_sub_u64 (a := 32) (by omega) (by omega)
      simp only [Int.toNat_natCast, dg_getD i17, e1, e2] at k1 k2 ⊢
      refine ⟨k1, k2, by simp, k1, k2, fun hlt => ?_, fun hlt => ?_⟩
      · have hlt' : i + 1 < n := by simp at hlt; omega
        rw [if_pos hlt'] at hdn
        obtain ⟨m1, m2⟩ := down_math hs hd (dgt_lt x (i + 1))
        refine ⟨k1, k2, in17 (by omega), ble17 (i := i + 1) (by omega), by simp, k1, k2, i + 1, by omega, by dsimp only; omega, Sim.of_eq ?_⟩
        rw [getD_set_eq (by rw [dg_length]; exact i17), List.set_set, dg_getD (by omega), m1, dg_set m2, ← hdn, dset_low]
      · have hlt' : ¬ i + 1 < n := by simp at hlt; omega
        rw [if_neg hlt', Nat.add_zero] at hdn
        refine ⟨i + 1, by omega, by dsimp only; omega, Sim.of_eq ?_⟩
        rw [ishr_nat _ _ (by omega), dg_set (by omega), ← hdn, dset_low]
    · have hi : i = n := by simp at hc; omega
      subst hi
      refine ⟨rfl, ?_⟩
      rw [Nat.mod_eq_of_lt (Nat.lt_of_le_of_lt (Nat.div_le_self _ _) (mod_lt32 x i))]
  · rw [Nat.pow_zero, Nat.mod_one]; exact Sim.refl _

/-! ### guess -/
def gz (v1 v2 d2 : Nat) : Nat → Nat → Nat → Nat × Nat
  | 0, g, l => (g, l)
  | k + 1, g, l => if 4294967295 < g ∨ l * b32 + d2 < g * v2 then (if 4294967295 < l + v1 then (g - 1, l + v1) else gz v1 v2 d2 k (g - 1) (l + v1)) else (g, l)
def gG (v1 v2 d2 g l : Nat) : Nat := (gz v1 v2 d2 b32 g l).1
def gL (v1 v2 d2 g l : Nat) : Nat := (gz v1 v2 d2 b32 g l).2
theorem guess_loop (x v a n g0 l0 : Nat) (hn : 2 ≤ n) (han : a + n < 17) (hv : 0 < dgt v (n - 1)) (hg0 : g0 ≤ b32 + 1) (hl0 : l0 < b32) :
    CodeR Try.prog (.loop (loopAt fi_mul_digits_guess [0, 0, 1, 1, 1, 0, 1])) (guess_st (dg 17 x) (dg 17 v) a n g0 l0).s
    (fun e s' => e = .exit 0 ∧ s' = (guess_st (dg 17 x) (dg 17 v) a n (gG (dgt v (n - 1)) (dgt v (n - 2)) (dgt x (a + n - 2)) g0 l0 : Nat) (gL (dgt v (n - 1)) (dgt v (n - 2)) (dgt x (a + n - 2)) g0 l0 : Nat)).s) := by
  unfold gG gL
  generalize hf : gz (dgt v (n - 1)) (dgt v (n - 2)) (dgt x (a + n - 2)) b32 g0 l0 = fin
  refine guess_rule (σ := Nat × Nat × Nat) (fun q => guess_st (dg 17 x) (dg 17 v) a n (q.2.1 : Nat) (q.2.2 : Nat)) (fun q => q.2.2 < b32 ∧ q.2.1 ≤ b32 + 1 ∧ gz (dgt v (n - 1)) (dgt v (n - 2)) (dgt x (a + n - 2)) q.1 q.2.1 q.2.2 = fin ∧ b32 ≤ q.1 * dgt v (n - 1) + q.2.2)
    (fun q => q.1) _ (fun _ => Nat.le_refl 2) ?_ (b32, g0, l0) ⟨hl0, hg0, hf, ?_⟩
  · rintro ⟨k, g, l⟩ ⟨h1, h2, h3, h4⟩
    simp only at h1 h2 h3 h4 ⊢
    have hB : b32 = 4294967296 := rfl
    have d1 := dgt_lt v (n - 1)
    have d2 := dgt_lt v (n - 2)
    have d3 := dgt_lt x (a + n - 2)
    have e1 : IntKind.wrap .i64 ((n : Int) - 1) = ((n - 1 : Nat) : Int) := wrapi_sub (b := 1) (by omega) (by omega)
    have e2 : IntKind.wrap .i64 ((n : Int) - 2) = ((n - 2 : Nat) : Int) := wrapi_sub (b := 2) (by omega) (by omega)
    have e3 : IntKind.wrap .i64 (IntKind.wrap .i64 ((a : Int) + (n : Int)) - 2) = ((a + n - 2 : Nat) : Int) := by rw [wrapi_add (by omega)]; exact wrapi_sub (b := 2) (by omega) (by omega)
    obtain ⟨k', rfl⟩ : ∃ k', k = k' + 1 := by
      rcases k with _ | k'
      · omega
      · exact ⟨k', rfl⟩
    refine ⟨guess_X, ?_⟩
    rw [guess_body]
    simp only [e1, e2, e3, Int.toNat_natCast, dg_getD (show n - 1 < 17 by omega), dg_getD (show n - 2 < 17 by omega), dg_getD (show a + n - 2 < 17 by omega)]
    have e4 : IntKind.wrap .u64 ((l : Int) + ((dgt v (n - 1) : Nat) : Int)) = ((l + dgt v (n - 1) : Nat) : Int) := wrap_add (by omega)
    have step : 0 < g → (4294967295 < g ∨ l * b32 + dgt x (a + n - 2) < g * dgt v (n - 2)) → T.holds (.need ((decide ((0 : Int) ≤ ((n - 1 : Nat) : Int))) && (decide (((n - 1 : Nat) : Int) < (17 : Int)))) (.need (Nat.ble (n - 1 + 1) 17) (.ite (decide ((IntKind.wrap .u64 ((l : Int) + ((dgt v (n - 1) : Nat) : Int))) > (4294967295 : Int)))
        (.leaf ((.exit 0), guess_st (dg 17 x) (dg 17 v) a n (IntKind.wrap .u64 ((g : Int) - (1 : Int))) (IntKind.wrap .u64 ((l : Int) + ((dgt v (n - 1) : Nat) : Int)))))
        (.leaf (.normal, guess_st (dg 17 x) (dg 17 v) a n (IntKind.wrap .u64 ((g : Int) - (1 : Int))) (IntKind.wrap .u64 ((l : Int) + ((dgt v (n - 1) : Nat) : Int))))))))
        (Round (fun q : Nat × Nat × Nat => guess_st (dg 17 x) (dg 17 v) a n (q.2.1 : Nat) (q.2.2 : Nat)) (fun q => q.2.2 < b32 ∧ q.2.1 ≤ b32 + 1 ∧ gz (dgt v (n - 1)) (dgt v (n - 2)) (dgt x (a + n - 2)) q.1 q.2.1 q.2.2 = fin ∧ b32 ≤ q.1 * dgt v (n - 1) + q.2.2) (fun q => q.1)
          (fun e s' => e = .exit 0 ∧ s' = (guess_st (dg 17 x) (dg 17 v) a n fin.1 fin.2).s) (k' + 1, g, l)) := by
      intro hg hcond
      have e5 : IntKind.wrap .u64 ((g : Int) - (1 : Int)) = ((g - 1 : Nat) : Int) := wrap_sub_u64 (b := 1) (by omega) (by omega)
      rw [e4, e5]
      simp only [gz, if_pos hcond] at h3
      refine ⟨in17 (by omega), by simp; omega, fun hlt => ?_, fun hlt => ?_⟩
      · have hlt' : 4294967295 < l + dgt v (n - 1) := by simp at hlt; omega
        rw [if_pos hlt'] at h3
        rw [← h3]
        exact ⟨rfl, rfl⟩
      · have hlt' : ¬ 4294967295 < l + dgt v (n - 1) := by simp at hlt; omega
        rw [if_neg hlt'] at h3
        refine ⟨(k', g - 1, l + dgt v (n - 1)), ⟨by dsimp only; omega, by dsimp only; omega, h3, ?_⟩, by dsimp only; omega, Sim.refl _⟩
        dsimp only
        rw [Nat.add_mul] at h4; omega
    refine ⟨fun hc => ?_, fun hc => ?_⟩
    · have hc' : 4294967295 < g := by simp at hc; omega
      exact step (by omega) (.inl hc')
    · have hc' : ¬ 4294967295 < g := by simp at hc; omega
      have hm : g * dgt v (n - 2) ≤ 4294967295 * 4294967295 := Nat.mul_le_mul (by omega) (by omega)
      have hl2 : l * 2 ^ 32 ≤ 4294967295 * 4294967296 := Nat.mul_le_mul (by omega) (by decide)
      have e6 : IntKind.wrap .u64 ((g : Int) * ((dgt v (n - 2) : Nat) : Int)) = ((g * dgt v (n - 2) : Nat) : Int) := wrap_mul (by omega)
      have e7 : ior .u64 (ishl .u64 (l : Int) 32) ((dgt x (a + n - 2) : Nat) : Int) = ((l * b32 + dgt x (a + n - 2) : Nat) : Int) := by
        have d3' : dgt x (a + n - 2) < 2 ^ 32 := d3
        rw [show (32 : Int) = ((32 : Nat) : Int) from rfl, ishl_fit (by omega) (by omega), ior_nat (by omega) (by omega), or_shift d3']
        rfl
      rw [e6, e7]
      refine ⟨in17 (by omega), by simp; omega, in17 (by omega), by simp; omega, fun hlt => ?_, fun hlt => ?_⟩
      · have hlt' : l * b32 + dgt x (a + n - 2) < g * dgt v (n - 2) := Int.ofNat_lt.1 (of_decide_eq_true hlt)
        have : 0 < g := by rcases Nat.eq_zero_or_pos g with h | h; (subst h; simp at hlt'); exact h
        exact step this (.inr hlt')
      · have hlt' : ¬ l * b32 + dgt x (a + n - 2) < g * dgt v (n - 2) := fun h => of_decide_eq_false hlt (Int.ofNat_lt.2 h)
        simp only [gz] at h3
        rw [if_neg (by omega)] at h3
        rw [← h3]
        exact ⟨rfl, rfl⟩
  · have : b32 * 1 ≤ b32 * dgt v (n - 1) := Nat.mul_le_mul_left _ hv
    dsimp only
    omega
end Go.Proofs.Ytakmgioeldbkcaa

/- Contracts: long division (mul): the functions. -/
namespace Go.Proofs.Ytakmgioeldbkcaa
open Go Go.RowKit

theorem upSub : subC fi_mul_digits_up.body [0, 1, 0, 1, 1] = some (.loop (loopAt fi_mul_digits_up [0, 1, 0, 1, 1])) := loop_sub' (c := loopAt fi_mul_digits_up [0, 1, 0, 1, 1]) (by kernel_rfl)
noncomputable def upLC (x s : Nat) (hx : x < b32 ^ 17) (hs : s < 32) : LCT Try.prog := LCT.one fi_mul_digits_up [0, 1, 0, 1, 1] _ _ _ upSub (up_loop x s hx hs)
noncomputable def upX (x s : Nat) (hx : x < b32 ^ 17) (hs : s < 32) : EnvT Try.prog := { fis := [fi_mul_digits_up], lcs := [upLC x s hx hs] }
theorem shortSub : subC fi_mul_digits_short.body [0, 1, 0, 1, 1] = some (.loop (loopAt fi_mul_digits_short [0, 1, 0, 1, 1])) := loop_sub' (c := loopAt fi_mul_digits_short [0, 1, 0, 1, 1]) (by kernel_rfl)
noncomputable def shortLC (x d : Nat) (hx : x < b32 ^ 17) (hd : 0 < d) (hdb : d < b32) : LCT Try.prog := LCT.one fi_mul_digits_short [0, 1, 0, 1, 1] _ _ _ shortSub (short_loop x d hx hd hdb)
noncomputable def shortX (x d : Nat) (hx : x < b32 ^ 17) (hd : 0 < d) (hdb : d < b32) : EnvT Try.prog := { fis := [fi_mul_digits_short], lcs := [shortLC x d hx hd hdb] }
theorem downSub : subC fi_mul_digits_down.body [0, 1, 0, 1, 1] = some (.loop (loopAt fi_mul_digits_down [0, 1, 0, 1, 1])) := loop_sub' (c := loopAt fi_mul_digits_down [0, 1, 0, 1, 1]) (by kernel_rfl)
noncomputable def downLC (x s n : Nat) (hs : s < 32) (hn : n ≤ 17) : LCT Try.prog := LCT.one fi_mul_digits_down [0, 1, 0, 1, 1] _ _ _ downSub (down_loop x s n hs hn)
noncomputable def downX (x s n : Nat) (hs : s < 32) (hn : n ≤ 17) : EnvT Try.prog := { fis := [fi_mul_digits_down], lcs := [downLC x s n hs hn] }
theorem guessSub : subC fi_mul_digits_guess.body [0, 0, 1, 1, 1, 0, 1] = some (.loop (loopAt fi_mul_digits_guess [0, 0, 1, 1, 1, 0, 1])) := loop_sub' (c := loopAt fi_mul_digits_guess [0, 0, 1, 1, 1, 0, 1]) (by kernel_rfl)
noncomputable def guessLC (x v a n g0 l0 : Nat) (hn : 2 ≤ n) (han : a + n < 17) (hv : 0 < dgt v (n - 1)) (hg0 : g0 ≤ b32 + 1) (hl0 : l0 < b32) : LCT Try.prog := LCT.one fi_mul_digits_guess [0, 0, 1, 1, 1, 0, 1] _ _ _ guessSub (guess_loop x v a n g0 l0 hn han hv hg0 hl0)
noncomputable def guessX (x v a n g0 l0 : Nat) (hn : 2 ≤ n) (han : a + n < 17) (hv : 0 < dgt v (n - 1)) (hg0 : g0 ≤ b32 + 1) (hl0 : l0 < b32) : EnvT Try.prog := { fis := [fi_mul_digits_guess], lcs := [guessLC x v a n g0 l0 hn han hv hg0 hl0] }
noncomputable def lenX : EnvT Try.prog := { fis := [fi_mul_digits_length] }

theorem up_tree (x s : Nat) (hx : x < b32 ^ 17) (hs : s < 32) : (callT (upX x s hx hs) (execT (upX x s hx hs) 100) 125 [.ints .u64 17 (dg 17 x), .int .u64 s] [] [] 0 []).map CR.v =
    (.need (((s : Nat) : Int) == ((s : Nat) : Int))
    (.need true
    (.need ((dg 17 x) == (dg 17 x))
    (.need true
    (.need ((dg 17 x) == (dg 17 x))
    (.need true
    (.need true
    (.leaf (.ints .u64 17 (dg 17 (x * (2 ^ s)))))))))))) := by kernel_rfl

theorem short_tree (x d : Nat) (hx : x < b32 ^ 17) (hd : 0 < d) (hdb : d < b32) : (callT (shortX x d hx hd hdb) (execT (shortX x d hx hd hdb) 100) 124 [.ints .u64 17 (dg 17 x), .int .u64 d] [] [] 0 []).map CR.v =
    (.need (((d : Nat) : Int) == ((d : Nat) : Int))
    (.need true
    (.need true
    (.need true
    (.need ((dg 17 x) == (dg 17 x))
    (.need true
    (.need true
    (.leaf (.tup [(.ints .u64 17 (dg 17 (x / d))), (.int .u64 (((x % d) : Nat) : Int))]))))))))) := by kernel_rfl

theorem down_tree (x s n : Nat) (hs : s < 32) (hn : n ≤ 17) : (callT (downX x s n hs hn) (execT (downX x s n hs hn) 100) 129 [.ints .u64 17 (dg 17 x), .int .u64 s, .int .i64 n] [] [] 0 []).map CR.v =
    (.need (((s : Nat) : Int) == ((s : Nat) : Int))
    (.need (((n : Nat) : Int) == ((n : Nat) : Int))
    (.need (((n : Nat) : Int) == ((n : Nat) : Int))
    (.need true
    (.need ((dg 17 x) == (dg 17 x))
    (.need true
    (.need true
    (.need true
    (.leaf (.ints .u64 17 (dg 17 ((x % (4294967296 ^ n)) / (2 ^ s))))))))))))) := by kernel_rfl

theorem guess_tree (x v a n g0 l0 : Nat) (hn : 2 ≤ n) (han : a + n < 17) (hv : 0 < dgt v (n - 1)) (hg0 : g0 ≤ b32 + 1) (hl0 : l0 < b32) : (callT (guessX x v a n g0 l0 hn han hv hg0 hl0) (execT (guessX x v a n g0 l0 hn han hv hg0 hl0) 100) 126 [.ints .u64 17 (dg 17 x), .ints .u64 17 (dg 17 v), .int .i64 a, .int .i64 n] [] [] 0 []).map CR.v =
    (.need ((decide ((0 : Int) ≤ (IntKind.wrap .i64 (((a : Nat) : Int) + ((n : Nat) : Int))))) && (decide ((IntKind.wrap .i64 (((a : Nat) : Int) + ((n : Nat) : Int))) < (17 : Int))))
    (.need (Nat.ble ((Int.toNat (IntKind.wrap .i64 (((a : Nat) : Int) + ((n : Nat) : Int)))) + 1) 17)
    (.need ((decide ((0 : Int) ≤ (IntKind.wrap .i64 ((IntKind.wrap .i64 (((a : Nat) : Int) + ((n : Nat) : Int))) - (1 : Int))))) && (decide ((IntKind.wrap .i64 ((IntKind.wrap .i64 (((a : Nat) : Int) + ((n : Nat) : Int))) - (1 : Int))) < (17 : Int))))
    (.need (Nat.ble ((Int.toNat (IntKind.wrap .i64 ((IntKind.wrap .i64 (((a : Nat) : Int) + ((n : Nat) : Int))) - (1 : Int)))) + 1) 17)
    (.need ((decide ((0 : Int) ≤ (IntKind.wrap .i64 (((n : Nat) : Int) - (1 : Int))))) && (decide ((IntKind.wrap .i64 (((n : Nat) : Int) - (1 : Int))) < (17 : Int))))
    (.need (Nat.ble ((Int.toNat (IntKind.wrap .i64 (((n : Nat) : Int) - (1 : Int)))) + 1) 17)
    (.need (!(decide ((List.getD (dg 17 v) (Int.toNat (IntKind.wrap .i64 (((n : Nat) : Int) - (1 : Int)))) (0 : Int)) = (0 : Int))))
    (.need ((decide ((0 : Int) ≤ (IntKind.wrap .i64 (((n : Nat) : Int) - (1 : Int))))) && (decide ((IntKind.wrap .i64 (((n : Nat) : Int) - (1 : Int))) < (17 : Int))))
    (.need (Nat.ble ((Int.toNat (IntKind.wrap .i64 (((n : Nat) : Int) - (1 : Int)))) + 1) 17)
    (.need (!(decide ((List.getD (dg 17 v) (Int.toNat (IntKind.wrap .i64 (((n : Nat) : Int) - (1 : Int)))) (0 : Int)) = (0 : Int))))
    (.need (((a : Nat) : Int) == ((a : Nat) : Int))
    (.need (((n : Nat) : Int) == ((n : Nat) : Int))
    (.need true
    (.need (((g0 : Nat) : Int) == (IntKind.wrap .u64 (Int.tdiv (ior .u64 (ishl .u64 (List.getD (dg 17 x) (Int.toNat (IntKind.wrap .i64 (((a : Nat) : Int) + ((n : Nat) : Int)))) (0 : Int)) (32 : Int)) (List.getD (dg 17 x) (Int.toNat (IntKind.wrap .i64 ((IntKind.wrap .i64 (((a : Nat) : Int) + ((n : Nat) : Int))) - (1 : Int)))) (0 : Int))) (List.getD (dg 17 v) (Int.toNat (IntKind.wrap .i64 (((n : Nat) : Int) - (1 : Int)))) (0 : Int)))))
    (.need (((l0 : Nat) : Int) == (Int.tmod (ior .u64 (ishl .u64 (List.getD (dg 17 x) (Int.toNat (IntKind.wrap .i64 (((a : Nat) : Int) + ((n : Nat) : Int)))) (0 : Int)) (32 : Int)) (List.getD (dg 17 x) (Int.toNat (IntKind.wrap .i64 ((IntKind.wrap .i64 (((a : Nat) : Int) + ((n : Nat) : Int))) - (1 : Int)))) (0 : Int))) (List.getD (dg 17 v) (Int.toNat (IntKind.wrap .i64 (((n : Nat) : Int) - (1 : Int)))) (0 : Int))))
    (.need ((dg 17 x) == (dg 17 x))
    (.need ((dg 17 v) == (dg 17 v))
    (.need true
    (.leaf (.int .u64 (((gG (dgt v (n - 1)) (dgt v (n - 2)) (dgt x ((a + n) - 2)) g0 l0) : Nat) : Int))))))))))))))))))))) := by kernel_rfl

theorem len_tree (x : Nat) : (callT (lenX) (execT (lenX) 100) 123 [.ints .u64 17 (dg 17 x)] [] [] 0 []).map CR.v =
    (.ite ((((dgt x 16) : Nat) : Int) != (0 : Int))
     (.leaf (.int .i64 (17 : Int)))
     (.ite ((((dgt x 15) : Nat) : Int) != (0 : Int))
      (.leaf (.int .i64 (16 : Int)))
      (.ite ((((dgt x 14) : Nat) : Int) != (0 : Int))
       (.leaf (.int .i64 (15 : Int)))
       (.ite ((((dgt x 13) : Nat) : Int) != (0 : Int))
        (.leaf (.int .i64 (14 : Int)))
        (.ite ((((dgt x 12) : Nat) : Int) != (0 : Int))
         (.leaf (.int .i64 (13 : Int)))
         (.ite ((((dgt x 11) : Nat) : Int) != (0 : Int))
          (.leaf (.int .i64 (12 : Int)))
          (.ite ((((dgt x 10) : Nat) : Int) != (0 : Int))
           (.leaf (.int .i64 (11 : Int)))
           (.ite ((((dgt x 9) : Nat) : Int) != (0 : Int))
            (.leaf (.int .i64 (10 : Int)))
            (.ite ((((dgt x 8) : Nat) : Int) != (0 : Int))
             (.leaf (.int .i64 (9 : Int)))
             (.ite ((((dgt x 7) : Nat) : Int) != (0 : Int))
              (.leaf (.int .i64 (8 : Int)))
              (.ite ((((dgt x 6) : Nat) : Int) != (0 : Int))
               (.leaf (.int .i64 (7 : Int)))
               (.ite ((((dgt x 5) : Nat) : Int) != (0 : Int))
                (.leaf (.int .i64 (6 : Int)))
                (.ite ((((dgt x 4) : Nat) : Int) != (0 : Int))
                 (.leaf (.int .i64 (5 : Int)))
                 (.ite ((((dgt x 3) : Nat) : Int) != (0 : Int))
                  (.leaf (.int .i64 (4 : Int)))
                  (.ite ((((dgt x 2) : Nat) : Int) != (0 : Int))
                   (.leaf (.int .i64 (3 : Int)))
                   (.ite ((((dgt x 1) : Nat) : Int) != (0 : Int))
                    (.leaf (.int .i64 (2 : Int)))
                    (.ite ((((dgt x 0) : Nat) : Int) != (0 : Int))
                     (.leaf (.int .i64 (1 : Int)))
                     (.leaf (.int .i64 (0 : Int)))))))))))))))))))) := by kernel_rfl

theorem up_ok (x s : Nat) (hx : x < b32 ^ 17) (hs : s < 32) : Pure Try.prog 125 [.ints .u64 17 (dg 17 x), .int .u64 s] (.ints .u64 17 (dg 17 (x * 2 ^ s))) :=
  Pure.by_tree mixed _ 100 _ _ (up_tree x s hx hs) (by simp only [T.holds, beq_self_eq_true, true_and]; exact (SameV.ints rfl).r)
theorem short_ok (x d : Nat) (hx : x < b32 ^ 17) (hd : 0 < d) (hdb : d < b32) : Pure Try.prog 124 [.ints .u64 17 (dg 17 x), .int .u64 d] (.tup [.ints .u64 17 (dg 17 (x / d)), .int .u64 (x % d : Nat)]) :=
  Pure.by_tree mixed _ 100 _ _ (short_tree x d hx hd hdb) (by simp only [T.holds, beq_self_eq_true, true_and]; exact SameR.tup2 (SameV.ints rfl) (SameV.int rfl))
theorem down_ok (x s n : Nat) (hs : s < 32) (hn : n ≤ 17) : Pure Try.prog 129 [.ints .u64 17 (dg 17 x), .int .u64 s, .int .i64 n] (.ints .u64 17 (dg 17 (x % b32 ^ n / 2 ^ s))) :=
  Pure.by_tree mixed _ 100 _ _ (down_tree x s n hs hn) (by simp only [T.holds, beq_self_eq_true, true_and]; exact (SameV.ints rfl).r)
theorem len_ok (x : Nat) : Pure Try.prog 123 [.ints .u64 17 (dg 17 x)] (.int .i64 (nd x 17 : Nat)) := by
  refine Pure.by_tree mixed _ 100 _ _ (len_tree x) ?_
  simp only [T.holds, bne_iff_ne, ne_eq, Int.natCast_eq_zero, bne_eq_false_iff_eq]
  have key : ∀ n m : Nat, m = n → SameR (.int .i64 (n : Int)) (.int .i64 (m : Int)) := fun n m h => (SameV.int (by rw [h])).r
  refine ⟨fun h => key 17 _ (by simp [nd, h]), fun h16 => ⟨fun h => key 16 _ (by simp [nd, h, *]), fun h15 => ⟨fun h => key 15 _ (by simp [nd, h, *]), fun h14 => ⟨fun h => key 14 _ (by simp [nd, h, *]), fun h13 => ⟨fun h => key 13 _ (by simp [nd, h, *]),
    fun h12 => ⟨fun h => key 12 _ (by simp [nd, h, *]), fun h11 => ⟨fun h => key 11 _ (by simp [nd, h, *]), fun h10 => ⟨fun h => key 10 _ (by simp [nd, h, *]), fun h9 => ⟨fun h => key 9 _ (by simp [nd, h, *]), fun h8 => ⟨fun h => key 8 _ (by simp [nd, h, *]),
    fun h7 => ⟨fun h => key 7 _ (by simp [nd, h, *]), fun h6 => ⟨fun h => key 6 _ (by simp [nd, h, *]), fun h5 => ⟨fun h => key 5 _ (by simp [nd, h, *]), fun h4 => ⟨fun h => key 4 _ (by simp [nd, h, *]), fun h3 => ⟨fun h => key 3 _ (by simp [nd, h, *]),
    fun h2 => ⟨fun h => key 2 _ (by simp [nd, h, *]), fun h1 => ⟨fun h => key 1 _ (by simp [nd, h, *]), fun h0 => key 0 _ (by simp [nd, *])⟩⟩⟩⟩⟩⟩⟩⟩⟩⟩⟩⟩⟩⟩⟩⟩⟩
theorem guess_ok (x v a n : Nat) (hn : 2 ≤ n) (han : a + n < 17) (hv : 0 < dgt v (n - 1)) (hg0 : (dgt x (a + n) * b32 + dgt x (a + n - 1)) / dgt v (n - 1) ≤ b32 + 1) :
    Pure Try.prog 126 [.ints .u64 17 (dg 17 x), .ints .u64 17 (dg 17 v), .int .i64 a, .int .i64 n]
      (.int .u64 (gG (dgt v (n - 1)) (dgt v (n - 2)) (dgt x (a + n - 2)) ((dgt x (a + n) * b32 + dgt x (a + n - 1)) / dgt v (n - 1)) ((dgt x (a + n) * b32 + dgt x (a + n - 1)) % dgt v (n - 1)) : Nat)) := by
  have hB : b32 = 4294967296 := rfl
  have hl0 : (dgt x (a + n) * b32 + dgt x (a + n - 1)) % dgt v (n - 1) < b32 := Nat.lt_trans (Nat.mod_lt _ hv) (dgt_lt _ _)
  refine Pure.by_tree mixed _ 100 _ _ (guess_tree x v a n _ _ hn han hv hg0 hl0) ?_
  have e1 : IntKind.wrap .i64 ((a : Int) + (n : Int)) = ((a + n : Nat) : Int) := wrapi_add (by omega)
  have e2 : IntKind.wrap .i64 (((a + n : Nat) : Int) - 1) = ((a + n - 1 : Nat) : Int) := wrapi_sub (b := 1) (by omega) (by omega)
  have e3 : IntKind.wrap .i64 ((n : Int) - 1) = ((n - 1 : Nat) : Int) := wrapi_sub (b := 1) (by omega) (by omega)
  have d1 := dgt_lt x (a + n)
  have d2 : dgt x (a + n - 1) < 2 ^ 32 := dgt_lt x (a + n - 1)
  have hl2 : dgt x (a + n) * 2 ^ 32 ≤ 4294967295 * 4294967296 := Nat.mul_le_mul (by omega) (by decide)
  have e4 : ior .u64 (ishl .u64 ((dgt x (a + n) : Nat) : Int) 32) ((dgt x (a + n - 1) : Nat) : Int) = ((dgt x (a + n) * b32 + dgt x (a + n - 1) : Nat) : Int) := by
    rw [show (32 : Int) = ((32 : Nat) : Int) from rfl, ishl_fit (by omega) (by omega), ior_nat (by omega) (by omega), or_shift d2]
    rfl
  simp only [T.holds, e1, e2, e3, Int.toNat_natCast, dg_getD (show a + n < 17 by omega), dg_getD (show a + n - 1 < 17 by omega), dg_getD (show n - 1 < 17 by omega), e4, tdiv_nat, tmod_nat]
  rw [wrap_id (by omega)]
  have k : ∀ i, i < 17 → Nat.ble (i + 1) 17 = true := fun i h => by simp; omega
  refine ⟨in17 (by omega), k _ (by omega), in17 (by omega), k _ (by omega), in17 (by omega), k _ (by omega), by simp; omega, in17 (by omega), k _ (by omega), by simp; omega, by simp, by simp, trivial, by simp, by simp, by simp, by simp, trivial, (SameV.int rfl).r⟩

noncomputable def c_up : Ctr Try.prog := Ctr.of 125 (fun | [.ints .u64 17 l, .int .u64 s] => some ([isDg l, decide (0 ≤ s) && decide (s < 32)], .ints .u64 17 (dg 17 (valI l * 2 ^ s.toNat))) | _ => none) (by
  intro args ob v h hob
  split at h <;> simp only [Option.some.injEq, Prod.mk.injEq, reduceCtorEq] at h
  rename_i l s
  obtain ⟨rfl, rfl⟩ := h
  have h1 := hob _ (List.mem_cons_self)
  have h2 := hob (decide (0 ≤ s) && decide (s < 32)) (by simp)
  simp at h2
  have := up_ok (valI l) s.toNat (valI_lt h1) (by omega)
  rw [← isDg_eq h1, Int.toNat_of_nonneg h2.1] at this
  exact this)
noncomputable def c_short : Ctr Try.prog := Ctr.of 124 (fun | [.ints .u64 17 l, .int .u64 d] => some ([isDg l, decide (0 < d) && decide (d < 4294967296)], .tup [.ints .u64 17 (dg 17 (valI l / d.toNat)), .int .u64 (valI l % d.toNat : Nat)]) | _ => none) (by
  intro args ob v h hob
  split at h <;> simp only [Option.some.injEq, Prod.mk.injEq, reduceCtorEq] at h
  rename_i l d
  obtain ⟨rfl, rfl⟩ := h
  have h1 := hob _ (List.mem_cons_self)
  have h2 := hob (decide (0 < d) && decide (d < 4294967296)) (by simp)
  simp at h2
  have := short_ok (valI l) d.toNat (valI_lt h1) (by omega) (by unfold b32; omega)
  rw [← isDg_eq h1, Int.toNat_of_nonneg (by omega)] at this
  exact this)
noncomputable def c_down : Ctr Try.prog := Ctr.of 129 (fun | [.ints .u64 17 l, .int .u64 s, .int .i64 n] => some ([isDg l, decide (0 ≤ s) && decide (s < 32), decide (0 ≤ n) && decide (n ≤ 17)], .ints .u64 17 (dg 17 (valI l % b32 ^ n.toNat / 2 ^ s.toNat))) | _ => none) (by
  intro args ob v h hob
  split at h <;> simp only [Option.some.injEq, Prod.mk.injEq, reduceCtorEq] at h
  rename_i l s n
  obtain ⟨rfl, rfl⟩ := h
  have h1 := hob _ (List.mem_cons_self)
  have h2 := hob (decide (0 ≤ s) && decide (s < 32)) (by simp)
  have h3 := hob (decide (0 ≤ n) && decide (n ≤ 17)) (by simp)
  simp at h2 h3
  have := down_ok (valI l) s.toNat n.toNat (by omega) (by omega)
  rw [← isDg_eq h1, Int.toNat_of_nonneg h2.1, Int.toNat_of_nonneg h3.1] at this
  exact this)
noncomputable def c_len : Ctr Try.prog := Ctr.of 123 (fun | [.ints .u64 17 l] => some ([isDg l], .int .i64 (nd (valI l) 17 : Nat)) | _ => none) (by
  intro args ob v h hob
  split at h <;> simp only [Option.some.injEq, Prod.mk.injEq, reduceCtorEq] at h
  rename_i l
  obtain ⟨rfl, rfl⟩ := h
  have h1 := hob _ (List.mem_cons_self)
  have := len_ok (valI l)
  rw [← isDg_eq h1] at this
  exact this)
def gAt (x v a n : Nat) : Nat := gG (dgt v (n - 1)) (dgt v (n - 2)) (dgt x (a + n - 2)) ((dgt x (a + n) * b32 + dgt x (a + n - 1)) / dgt v (n - 1)) ((dgt x (a + n) * b32 + dgt x (a + n - 1)) % dgt v (n - 1))
def gPre (x v a n : Nat) : Bool := decide (2 ≤ n) && decide (a + n < 17) && decide (0 < dgt v (n - 1)) && decide ((dgt x (a + n) * b32 + dgt x (a + n - 1)) / dgt v (n - 1) ≤ b32 + 1)
noncomputable def c_guess : Ctr Try.prog := Ctr.of 126 (fun | [.ints .u64 17 l, .ints .u64 17 m, .int .i64 a, .int .i64 n] => some ([isDg l, isDg m, decide (0 ≤ a), decide (0 ≤ n), gPre (valI l) (valI m) a.toNat n.toNat], .int .u64 (gAt (valI l) (valI m) a.toNat n.toNat : Nat)) | _ => none) (by
  intro args ob v h hob
  split at h <;> simp only [Option.some.injEq, Prod.mk.injEq, reduceCtorEq] at h
  rename_i l m a n
  obtain ⟨rfl, rfl⟩ := h
  have h1 := hob (isDg l) (by simp)
  have h2 := hob (isDg m) (by simp)
  have h3 := hob (decide (0 ≤ a)) (by simp)
  have h4 := hob (decide (0 ≤ n)) (by simp)
  have h5 := hob (gPre (valI l) (valI m) a.toNat n.toNat) (by simp)
  simp [gPre] at h3 h4 h5
  have := guess_ok (valI l) (valI m) a.toNat n.toNat h5.1.1.1 h5.1.1.2 h5.1.2 h5.2
  rw [← isDg_eq h1, ← isDg_eq h2, Int.toNat_of_nonneg h3, Int.toNat_of_nonneg h4] at this
  exact this)
end Go.Proofs.Ytakmgioeldbkcaa

/- Contracts: long division (mul.less, mul.more). -/
namespace Go.Proofs.Ytakmgioeldbkcaa
open Go Go.RowKit

theorem lessSub : subC fi_mul_digits_less.body [0, 1, 0, 1, 1] = some (.loop (loopAt fi_mul_digits_less [0, 1, 0, 1, 1])) := loop_sub' (c := loopAt fi_mul_digits_less [0, 1, 0, 1, 1]) (by kernel_rfl)
noncomputable def lessLC (x v g a n : Nat) (hg : g < b32) (han : a + n < 17) : LCT Try.prog := LCT.one fi_mul_digits_less [0, 1, 0, 1, 1] _ _ _ lessSub (less_loop x v g a n hg han)
noncomputable def lessX (x v g a n : Nat) (hg : g < b32) (han : a + n < 17) : EnvT Try.prog := { fis := [fi_mul_digits_less], lcs := [lessLC x v g a n hg han] }
theorem moreSub : subC fi_mul_digits_more.body [0, 1, 0, 1, 1] = some (.loop (loopAt fi_mul_digits_more [0, 1, 0, 1, 1])) := loop_sub' (c := loopAt fi_mul_digits_more [0, 1, 0, 1, 1]) (by kernel_rfl)
noncomputable def moreLC (x v a n : Nat) (han : a + n < 17) : LCT Try.prog := LCT.one fi_mul_digits_more [0, 1, 0, 1, 1] _ _ _ moreSub (more_loop x v a n han)
noncomputable def moreX (x v a n : Nat) (han : a + n < 17) : EnvT Try.prog := { fis := [fi_mul_digits_more], lcs := [moreLC x v a n han] }

theorem less_tree (x v g a n : Nat) (hg : g < b32) (han : a + n < 17) : (callT (lessX x v g a n hg han) (execT (lessX x v g a n hg han) 100) 127 [.ptr 0 [], .ints .u64 17 (dg 17 v), .int .u64 g, .int .i64 a, .int .i64 n] [] [some ⟨73, .ints .u64 17 (dg 17 x), true⟩] 1 []).map (fun r => (r.v, r.H)) =
    (.need (((g : Nat) : Int) == ((g : Nat) : Int))
    (.need (((a : Nat) : Int) == ((a : Nat) : Int))
    (.need (((n : Nat) : Int) == ((n : Nat) : Int))
    (.need true
    (.need true
    (.need (((n : Nat) : Int) == ((n : Nat) : Int))
    (.need true
    (.need ((dg 17 x) == (dg 17 x))
    (.need ((dg 17 v) == (dg 17 v))
    (.need true
    (.need ((decide ((0 : Int) ≤ (IntKind.wrap .i64 (((a : Nat) : Int) + ((n : Nat) : Int))))) && (decide ((IntKind.wrap .i64 (((a : Nat) : Int) + ((n : Nat) : Int))) < (17 : Int))))
    (.need (Nat.ble ((Int.toNat (IntKind.wrap .i64 (((a : Nat) : Int) + ((n : Nat) : Int)))) + 1) 17)
    (.need ((decide ((0 : Int) ≤ (IntKind.wrap .i64 (((a : Nat) : Int) + ((n : Nat) : Int))))) && (decide ((IntKind.wrap .i64 (((a : Nat) : Int) + ((n : Nat) : Int))) < (17 : Int))))
    (.need (Nat.ble ((Int.toNat (IntKind.wrap .i64 (((a : Nat) : Int) + ((n : Nat) : Int)))) + 1) 17)
    (.need ((decide ((0 : Int) ≤ (IntKind.wrap .i64 (((a : Nat) : Int) + ((n : Nat) : Int))))) && (decide ((IntKind.wrap .i64 (((a : Nat) : Int) + ((n : Nat) : Int))) < (17 : Int))))
    (.need (Nat.ble ((Int.toNat (IntKind.wrap .i64 (((a : Nat) : Int) + ((n : Nat) : Int)))) + 1) 17)
    (.leaf ((.bool (decide ((List.getD (dg 17 (winY x a (lsW (x / (b32 ^ a)) v g n) (x / (b32 ^ a)) n)) (Int.toNat (IntKind.wrap .i64 (((a : Nat) : Int) + ((n : Nat) : Int)))) (0 : Int)) < (((lsB (x / (b32 ^ a)) v g n) : Nat) : Int)))), [(some ⟨73, (.ints .u64 17 (List.set (dg 17 (winY x a (lsW (x / (b32 ^ a)) v g n) (x / (b32 ^ a)) n)) (Int.toNat (IntKind.wrap .i64 (((a : Nat) : Int) + ((n : Nat) : Int)))) (iand .u64 (IntKind.wrap .u64 ((List.getD (dg 17 (winY x a (lsW (x / (b32 ^ a)) v g n) (x / (b32 ^ a)) n)) (Int.toNat (IntKind.wrap .i64 (((a : Nat) : Int) + ((n : Nat) : Int)))) (0 : Int)) - (((lsB (x / (b32 ^ a)) v g n) : Nat) : Int))) (4294967295 : Int)))), true⟩), (some ⟨73, (.ints .u64 17 (dg 17 v)), true⟩)])))))))))))))))))) := by kernel_rfl

theorem more_tree (x v a n : Nat) (han : a + n < 17) : (callT (moreX x v a n han) (execT (moreX x v a n han) 100) 128 [.ptr 0 [], .ints .u64 17 (dg 17 v), .int .i64 a, .int .i64 n] [] [some ⟨73, .ints .u64 17 (dg 17 x), true⟩] 1 []).map (fun r => (r.v, r.H)) =
    (.need (((a : Nat) : Int) == ((a : Nat) : Int))
    (.need (((n : Nat) : Int) == ((n : Nat) : Int))
    (.need true
    (.need (((n : Nat) : Int) == ((n : Nat) : Int))
    (.need true
    (.need ((dg 17 x) == (dg 17 x))
    (.need ((dg 17 v) == (dg 17 v))
    (.need true
    (.need ((decide ((0 : Int) ≤ (IntKind.wrap .i64 (((a : Nat) : Int) + ((n : Nat) : Int))))) && (decide ((IntKind.wrap .i64 (((a : Nat) : Int) + ((n : Nat) : Int))) < (17 : Int))))
    (.need (Nat.ble ((Int.toNat (IntKind.wrap .i64 (((a : Nat) : Int) + ((n : Nat) : Int)))) + 1) 17)
    (.need ((decide ((0 : Int) ≤ (IntKind.wrap .i64 (((a : Nat) : Int) + ((n : Nat) : Int))))) && (decide ((IntKind.wrap .i64 (((a : Nat) : Int) + ((n : Nat) : Int))) < (17 : Int))))
    (.need (Nat.ble ((Int.toNat (IntKind.wrap .i64 (((a : Nat) : Int) + ((n : Nat) : Int)))) + 1) 17)
    (.leaf ((.tup []), [(some ⟨73, (.ints .u64 17 (List.set (dg 17 (winY x a (mrW (x / (b32 ^ a)) v n) (x / (b32 ^ a)) n)) (Int.toNat (IntKind.wrap .i64 (((a : Nat) : Int) + ((n : Nat) : Int)))) (iand .u64 (IntKind.wrap .u64 ((List.getD (dg 17 (winY x a (mrW (x / (b32 ^ a)) v n) (x / (b32 ^ a)) n)) (Int.toNat (IntKind.wrap .i64 (((a : Nat) : Int) + ((n : Nat) : Int)))) (0 : Int)) + (((mrC (x / (b32 ^ a)) v n) : Nat) : Int))) (4294967295 : Int)))), true⟩), (some ⟨73, (.ints .u64 17 (dg 17 v)), true⟩)])))))))))))))) := by kernel_rfl

def lessU (x v g a n : Nat) : Bool := decide (dgt (x / b32 ^ a) n < lsB (x / b32 ^ a) v g n)
def lessY (x v g a n : Nat) : Nat := dset (winY x a (lsW (x / b32 ^ a) v g n) (x / b32 ^ a) n) (a + n) ((dgt (x / b32 ^ a) n + b32 - lsB (x / b32 ^ a) v g n) % b32)
def moreY (x v a n : Nat) : Nat := dset (winY x a (mrW (x / b32 ^ a) v n) (x / b32 ^ a) n) (a + n) ((dgt (x / b32 ^ a) n + mrC (x / b32 ^ a) v n) % b32)
theorem wrap_neg {a b : Nat} (ha : a < 4294967296) (hb : b < 4294967296) : iand .u64 (IntKind.wrap .u64 ((a : Int) - (b : Int))) 4294967295 = (((a + b32 - b) % b32 : Nat) : Int) := by
  have e : IntKind.wrap .u64 ((a : Int) - (b : Int)) = (((a + 18446744073709551616 - b) % 18446744073709551616 : Nat) : Int) := by
    simp only [IntKind.wrap, IntKind.signed, IntKind.bits]
    simp
    omega
  rw [e, show (4294967295 : Int) = ((4294967295 : Nat) : Int) from rfl, iand_nat (by omega), and_low32]
  have : b32 = 4294967296 := rfl
  rw [this]
  congr 1
  omega
theorem less_ok (x v g a n : Nat) (hg : g < b32) (han : a + n < 17) : PureW Try.prog 127 [.ints .u64 17 (dg 17 v), .int .u64 g, .int .i64 a, .int .i64 n] 73 (.ints .u64 17 (dg 17 x)) (.bool (lessU x v g a n)) (.ints .u64 17 (dg 17 (lessY x v g a n))) := by
  refine PureW.by_tree mixed _ 100 _ _ _ _ (less_tree x v g a n hg han) ?_
  have e1 : IntKind.wrap .i64 ((a : Int) + (n : Int)) = ((a + n : Nat) : Int) := wrapi_add (by omega)
  obtain ⟨_, w1⟩ := ls_ok (x / b32 ^ a) v g n
  have hb : lsB (x / b32 ^ a) v g n ≤ 4294967295 := ls_lt hg
  have hd : dgt (x / b32 ^ a) n < 4294967296 := dgt_lt _ _
  simp only [T.holds, e1, Int.toNat_natCast, dg_getD (show a + n < 17 by omega), win_dgt w1, beq_self_eq_true, true_and]
  have k1 := in17 (i := a + n) (by omega)
  have k2 : Nat.ble (a + n + 1) 17 = true := by simp; omega
  refine ⟨k1, k2, k1, k2, k1, k2, (SameV.bool ?_).r, SameB.ints rfl ?_⟩
  · unfold lessU; simp only [Int.ofNat_lt]
  · rw [wrap_neg hd (by omega), dg_set (Nat.mod_lt _ (by decide))]; rfl
theorem more_ok (x v a n : Nat) (han : a + n < 17) : PureW Try.prog 128 [.ints .u64 17 (dg 17 v), .int .i64 a, .int .i64 n] 73 (.ints .u64 17 (dg 17 x)) (.tup []) (.ints .u64 17 (dg 17 (moreY x v a n))) := by
  refine PureW.by_tree mixed _ 100 _ _ _ _ (more_tree x v a n han) ?_
  have e1 : IntKind.wrap .i64 ((a : Int) + (n : Int)) = ((a + n : Nat) : Int) := wrapi_add (by omega)
  have w1 : mrW (x / b32 ^ a) v n < b32 ^ n := Nat.mod_lt _ (b32_pos n)
  have hb := mrC_le (x / b32 ^ a) v n
  have hd : dgt (x / b32 ^ a) n < 4294967296 := dgt_lt _ _
  simp only [T.holds, e1, Int.toNat_natCast, dg_getD (show a + n < 17 by omega), win_dgt w1, beq_self_eq_true, true_and]
  have k1 := in17 (i := a + n) (by omega)
  have k2 : Nat.ble (a + n + 1) 17 = true := by simp; omega
  refine ⟨k1, k2, k1, k2, SameR.tup0, SameB.ints rfl ?_⟩
  rw [wrap_add (by omega), show (4294967295 : Int) = ((4294967295 : Nat) : Int) from rfl, iand_nat (by omega), and_low32, dg_set_mod]; rfl
noncomputable def c_less : Ctr Try.prog := Ctr.ofW 127 73 (fun | .ints .u64 17 l, [.ints .u64 17 m, .int .u64 g, .int .i64 a, .int .i64 n] => some ([isDg l, isDg m, decide (0 ≤ g) && decide (g < 4294967296), decide (0 ≤ a), decide (0 ≤ n), decide (a.toNat + n.toNat < 17)], .bool (lessU (valI l) (valI m) g.toNat a.toNat n.toNat), .ints .u64 17 (dg 17 (lessY (valI l) (valI m) g.toNat a.toNat n.toNat))) | _, _ => none) (by
  intro x args ob v y h hob
  split at h <;> simp only [Option.some.injEq, Prod.mk.injEq, reduceCtorEq] at h
  rename_i l m g a n
  obtain ⟨rfl, rfl, rfl⟩ := h
  have h1 := hob (isDg l) (by simp)
  have h2 := hob (isDg m) (by simp)
  have h3 := hob (decide (0 ≤ g) && decide (g < 4294967296)) (by simp)
  have h4 := hob (decide (0 ≤ a)) (by simp)
  have h5 := hob (decide (0 ≤ n)) (by simp)
  have h6 := hob (decide (a.toNat + n.toNat < 17)) (by simp)
  simp at h3 h4 h5 h6
  have := less_ok (valI l) (valI m) g.toNat a.toNat n.toNat (by unfold b32; omega) (by omega)
  rw [← isDg_eq h1, ← isDg_eq h2, Int.toNat_of_nonneg h3.1, Int.toNat_of_nonneg h4, Int.toNat_of_nonneg h5] at this
  exact this)
noncomputable def c_more : Ctr Try.prog := Ctr.ofW 128 73 (fun | .ints .u64 17 l, [.ints .u64 17 m, .int .i64 a, .int .i64 n] => some ([isDg l, isDg m, decide (0 ≤ a), decide (0 ≤ n), decide (a.toNat + n.toNat < 17)], .tup [], .ints .u64 17 (dg 17 (moreY (valI l) (valI m) a.toNat n.toNat))) | _, _ => none) (by
  intro x args ob v y h hob
  split at h <;> simp only [Option.some.injEq, Prod.mk.injEq, reduceCtorEq] at h
  rename_i l m a n
  obtain ⟨rfl, rfl, rfl⟩ := h
  have h1 := hob (isDg l) (by simp)
  have h2 := hob (isDg m) (by simp)
  have h4 := hob (decide (0 ≤ a)) (by simp)
  have h5 := hob (decide (0 ≤ n)) (by simp)
  have h6 := hob (decide (a.toNat + n.toNat < 17)) (by simp)
  simp at h4 h5 h6
  have := more_ok (valI l) (valI m) a.toNat n.toNat (by omega)
  rw [← isDg_eq h1, ← isDg_eq h2, Int.toNat_of_nonneg h4, Int.toNat_of_nonneg h5] at this
  exact this)
end Go.Proofs.Ytakmgioeldbkcaa

/- Contracts: long division (mul.long): its loops. -/
namespace Go.Proofs.Ytakmgioeldbkcaa
open Go Go.RowKit
noncomputable def longX : EnvT Try.prog := { cs := [c_up, c_short, c_down, c_len, c_guess], fis := [fi_mul_digits_long] }
noncomputable def lsh_st (x : Nat) (y : Nat) (n : Int) (v1 : Int) : KS := ⟨⟨pat' [(2, (.ptr 0 [])), (3, (.ptr 1 [])), (4, (.ptr 2 [])), (5, (.ptr 3 [])), (6, (.ptr 4 [])), (7, (.int .i64 n)), (10, (.int .u64 v1))] 0 80, [(some ⟨73, (.ints .u64 17 (dg 17 x)), true⟩), (some ⟨73, (.ints .u64 17 (dg 17 y)), true⟩), (some ⟨73, (.ints .u64 17 (dg 17 0)), true⟩), (some ⟨73, (.ints .u64 17 (dg 17 0)), true⟩), (some ⟨73, (.ints .u64 17 (dg 17 0)), true⟩)], 5⟩, kpat [2, 3, 4, 5, 6] 0 80, [false, false, true, true, true]⟩
theorem lsh_body (x : Nat) (y : Nat) (n : Int) (v1 : Int) : stepT longX 100 fi_mul_digits_long [0, 0, 1, 1, 1, 1, 1] [2, 3, 4, 5, 6, 7, 10] 5 (kpat [2, 3, 4, 5, 6] 0 80) [false, false, true, true, true] (lsh_st x y n v1) =
    (.need ((decide ((0 : Int) ≤ (IntKind.wrap .i64 (n - (1 : Int))))) && (decide ((IntKind.wrap .i64 (n - (1 : Int))) < (17 : Int))))
    (.need (Nat.ble ((Int.toNat (IntKind.wrap .i64 (n - (1 : Int)))) + 1) 17)
    (.need (decide ((0 : Int) ≤ v1))
    (.ite ((ishr .u64 (ishl .u64 (List.getD (dg 17 y) (Int.toNat (IntKind.wrap .i64 (n - (1 : Int)))) (0 : Int)) v1) (31 : Int)) == (0 : Int))
     (.leaf (.normal, lsh_st x y n (IntKind.wrap .u64 (v1 + (1 : Int)))))
     (.leaf ((.exit 1), lsh_st x y n v1)))))) := by kernel_rfl
theorem lsh_rule {σ : Type} (st : σ → KS) (Inv : σ → Prop) (μ : σ → Nat) (R : Ex → St → Prop) (hH : ∀ v, (st v).s.H.length ≤ 5) (hstep : ∀ v, Inv v → ∃ X : EnvT Try.prog, (stepT X 100 fi_mul_digits_long [0, 0, 1, 1, 1, 1, 1] [2, 3, 4, 5, 6, 7, 10] 5 (kpat [2, 3, 4, 5, 6] 0 80) [false, false, true, true, true] (st v)).holds (Round st Inv μ R v)) (v0 : σ) (h0 : Inv v0) : CodeR Try.prog (.loop (loopAt fi_mul_digits_long [0, 0, 1, 1, 1, 1, 1])) (st v0).s R :=
  loop_rule mixed fi_mul_digits_long [0, 0, 1, 1, 1, 1, 1] [2, 3, 4, 5, 6, 7, 10] 5 (kpat [2, 3, 4, 5, 6] 0 80) [false, false, true, true, true] st 100 Inv μ R (loop_sub' (c := loopAt fi_mul_digits_long [0, 0, 1, 1, 1, 1, 1]) (by kernel_rfl)) hH hstep v0 h0


def nsh (d : Nat) : Nat := 31 - Nat.log2 d
theorem nsh_spec {d : Nat} (h0 : d ≠ 0) (hd : d < b32) : d * 2 ^ nsh d < b32 ∧ 2147483648 ≤ d * 2 ^ nsh d ∧ ∀ s, s < nsh d → d * 2 ^ s < 2147483648 := by
  have h1 := Nat.log2_self_le h0
  have h2 : d < 2 ^ (Nat.log2 d + 1) := Nat.lt_log2_self
  have hk : Nat.log2 d < 32 := (Nat.log2_lt h0).2 hd
  unfold nsh
  generalize Nat.log2 d = k at *
  refine ⟨?_, ?_, fun s hs => ?_⟩
  · have : d * 2 ^ (31 - k) < 2 ^ (k + 1) * 2 ^ (31 - k) := (Nat.mul_lt_mul_right (Nat.pow_pos (by decide))).2 h2
    rw [← Nat.pow_add, show k + 1 + (31 - k) = 32 by omega] at this
    exact this
  · have : 2 ^ k * 2 ^ (31 - k) ≤ d * 2 ^ (31 - k) := Nat.mul_le_mul_right _ h1
    rw [← Nat.pow_add, show k + (31 - k) = 31 by omega] at this
    exact this
  · have : d * 2 ^ s < 2 ^ (k + 1) * 2 ^ s := (Nat.mul_lt_mul_right (Nat.pow_pos (by decide))).2 h2
    have h3 : 2 ^ (k + 1) * 2 ^ s ≤ 2 ^ 31 := by rw [← Nat.pow_add]; exact Nat.pow_le_pow_right (by decide) (by omega)
    exact Nat.lt_of_lt_of_le this h3
theorem lsh_loop (x y n : Nat) (hn : 0 < n) (hn17 : n ≤ 17) (h0 : dgt y (n - 1) ≠ 0) : CodeR Try.prog (.loop (loopAt fi_mul_digits_long [0, 0, 1, 1, 1, 1, 1])) (lsh_st x y n 0).s
    (fun e s' => e = .exit 1 ∧ s' = (lsh_st x y n (nsh (dgt y (n - 1)) : Nat)).s) := by
  have hd := dgt_lt y (n - 1)
  obtain ⟨p1, p2, p3⟩ := nsh_spec h0 hd
  have hk : nsh (dgt y (n - 1)) < 32 := by unfold nsh; omega
  refine lsh_rule (σ := Nat) (fun i => lsh_st x y n (i : Nat)) (fun i => i ≤ nsh (dgt y (n - 1))) (fun i => 32 - i) _ (fun _ => Nat.le_refl 5) ?_ 0 (by omega)
  intro i hi
  have e1 : IntKind.wrap .i64 ((n : Int) - 1) = ((n - 1 : Nat) : Int) := wrapi_sub (b := 1) (by omega) (by omega)
  have hB : b32 = 4294967296 := rfl
  have hlt : dgt y (n - 1) * 2 ^ i < b32 := by
    rcases Nat.lt_or_ge i (nsh (dgt y (n - 1))) with h | h
    · have := p3 i h; omega
    · have : i = nsh (dgt y (n - 1)) := by omega
      rw [this]; exact p1
  have e2 : ishr .u64 (ishl .u64 ((dgt y (n - 1) : Nat) : Int) (i : Int)) 31 = ((dgt y (n - 1) * 2 ^ i / 2147483648 : Nat) : Int) := by
    rw [ishl_fit (by omega) (by omega), show (31 : Int) = ((31 : Nat) : Int) from rfl, ishr_nat _ _ (by omega)]
  refine ⟨longX, ?_⟩
  rw [lsh_body]
  simp only [e1, Int.toNat_natCast, dg_getD (show n - 1 < 17 by omega), e2]
  refine ⟨in17 (by omega), by simp; omega, by simp, fun hc => ?_, fun hc => ?_⟩
  · have hc' : dgt y (n - 1) * 2 ^ i < 2147483648 := by
      have : dgt y (n - 1) * 2 ^ i / 2147483648 = 0 := Int.natCast_eq_zero.1 (eq_of_beq hc)
      omega
    have : i ≠ nsh (dgt y (n - 1)) := by intro e; rw [e] at hc'; omega
    refine ⟨i + 1, by omega, by dsimp only; omega, Sim.of_eq ?_⟩
    rw [show (1 : Int) = ((1 : Nat) : Int) from rfl, wrap_add (by omega)]
  · have hc' : ¬ dgt y (n - 1) * 2 ^ i < 2147483648 := by
      have : dgt y (n - 1) * 2 ^ i / 2147483648 ≠ 0 := by
        intro h; rw [h] at hc; simp at hc
      omega
    have : i = nsh (dgt y (n - 1)) := by
      rcases Nat.lt_or_ge i (nsh (dgt y (n - 1))) with h | h
      · exact absurd (p3 i h) hc'
      · omega
    subst this
    exact ⟨rfl, rfl⟩
theorem lshSub : subC fi_mul_digits_long.body [0, 0, 1, 1, 1, 1, 1] = some (.loop (loopAt fi_mul_digits_long [0, 0, 1, 1, 1, 1, 1])) := loop_sub' (c := loopAt fi_mul_digits_long [0, 0, 1, 1, 1, 1, 1]) (by kernel_rfl)
noncomputable def lshLC (x y n : Nat) (hn : 0 < n) (hn17 : n ≤ 17) (h0 : dgt y (n - 1) ≠ 0) : LCT Try.prog := LCT.one fi_mul_digits_long [0, 0, 1, 1, 1, 1, 1] _ _ _ lshSub (lsh_loop x y n hn hn17 h0)
noncomputable def longX1 (x y n : Nat) (hn : 0 < n) (hn17 : n ≤ 17) (h0 : dgt y (n - 1) ≠ 0) : EnvT Try.prog := { longX with lcs := [lshLC x y n hn hn17 h0] }
noncomputable def lmain_st (x y u v : Nat) (q : List Int) (n s : Nat) (a : Int) : KS := ⟨⟨pat' [(4, (.ptr 2 [])), (5, (.ptr 3 [])), (6, (.ptr 4 [])), (7, (.int .i64 ((n : Nat) : Int))), (10, (.int .u64 ((s : Nat) : Int))), (11, (.ptr 11 [])), (12, (.ptr 12 [])), (13, (.int .i64 a))] 0 80, [(some ⟨73, (.ints .u64 17 (dg 17 x)), true⟩), (some ⟨73, (.ints .u64 17 (dg 17 y)), true⟩), (some ⟨73, (.ints .u64 17 (dg 17 0)), true⟩), (some ⟨73, (.ints .u64 17 (dg 17 0)), true⟩), (some ⟨73, (.ints .u64 17 q), true⟩), none, none, none, none, none, none, (some ⟨73, (.ints .u64 17 (dg 17 u)), true⟩), (some ⟨73, (.ints .u64 17 (dg 17 v)), true⟩)], 13⟩, kpat [4, 5, 6, 11, 12] 0 80, [false, false, true, true, true, false, false, false, false, false, false, false, false]⟩
noncomputable def longX2 : EnvT Try.prog := { cs := [c_guess, c_less, c_more], fis := [fi_mul_digits_long] }
end Go.Proofs.Ytakmgioeldbkcaa

/- Plain arithmetic: a quotient's digit is guessed; a multiple is taken away. -/
namespace Go.Proofs.Ytakmgioeldbkcaa
open Go Go.RowKit

theorem lt_of_mul {a b V : Nat} (h : a * V < b * V) : a < b := Nat.lt_of_mul_lt_mul_right h

/-- The guess: 'V' is 'v1' and 'v2' and more, 'W' is 't' and 'd2' and more. 'p' is what the digits below these two count. -/
theorem gz_ok {v1 v2 d2 t V W p q : Nat} (hV : (v1 * b32 + v2) * p ≤ V) (hV2 : V < (v1 * b32 + v2 + 1) * p) (hW : (t * b32 + d2) * p ≤ W) (hW2 : W < (t * b32 + d2 + 1) * p) (hVp : b32 * p ≤ V) (hp : 0 < p)
    (hv2 : v2 < b32) (hq2 : W < (q + 1) * V) (hq : q * V ≤ W) (hqB : q < b32) :
    ∀ k g l, g * v1 + l = t → q ≤ g → g ≤ b32 + 1 → l < b32 → b32 ≤ k * v1 + l → q ≤ (gz v1 v2 d2 k g l).1 ∧ (gz v1 v2 d2 k g l).1 ≤ q + 1 ∧ (gz v1 v2 d2 k g l).1 < b32
  | 0, g, l, _, _, _, h4, h5 => by omega
  | k + 1, g, l, h1, h2, h3, h4, h5 => by
    have hB : b32 = 4294967296 := rfl
    unfold gz
    split
    · rename_i hc
      have hgq : q < g := by
        rcases hc with hc | hc
        · omega
        · refine Nat.lt_of_not_le fun hle => ?_
          have e1 : g * (v1 * b32 + v2) = g * v1 * b32 + g * v2 := by rw [Nat.mul_add, Nat.mul_assoc]
          have e2 : t * b32 = g * v1 * b32 + l * b32 := by rw [← h1, Nat.add_mul]
          have e3 : t * b32 + d2 + 1 ≤ g * (v1 * b32 + v2) := by omega
          have e4 : (t * b32 + d2 + 1) * p ≤ g * (v1 * b32 + v2) * p := Nat.mul_le_mul_right _ e3
          have e5 : g * ((v1 * b32 + v2) * p) ≤ g * V := Nat.mul_le_mul_left _ hV
          rw [← Nat.mul_assoc] at e5
          have e6 : g * V ≤ q * V := Nat.mul_le_mul_right _ hle
          omega
      have e0 : (g - 1) * v1 + (l + v1) = t := by
        obtain ⟨g', rfl⟩ : ∃ g', g = g' + 1 := ⟨g - 1, by omega⟩
        rw [Nat.add_mul] at h1
        simp only [Nat.add_sub_cancel]; omega
      split
      · rename_i hl
        simp only
        have key : (g - 1) * V ≤ W := by
          have e1 : V ≤ (v1 + 1) * b32 * p := by
            have : (v1 * b32 + v2 + 1) * p ≤ (v1 + 1) * b32 * p := Nat.mul_le_mul_right _ (by rw [Nat.add_mul]; omega)
            omega
          have e2 : (g - 1) * V ≤ (g - 1) * ((v1 + 1) * b32 * p) := Nat.mul_le_mul_left _ e1
          have e3 : (g - 1) * (v1 + 1) ≤ t := by rw [Nat.mul_add]; omega
          have e4 : (g - 1) * (v1 + 1) * (b32 * p) ≤ t * (b32 * p) := Nat.mul_le_mul_right _ e3
          have e5 : (g - 1) * ((v1 + 1) * b32 * p) = (g - 1) * (v1 + 1) * (b32 * p) := by simp only [Nat.mul_assoc]
          have e6 : t * (b32 * p) ≤ (t * b32 + d2) * p := by rw [← Nat.mul_assoc]; exact Nat.mul_le_mul_right _ (by omega)
          omega
        have : g - 1 < q + 1 := lt_of_mul (Nat.lt_of_le_of_lt key hq2)
        omega
      · exact gz_ok hV hV2 hW hW2 hVp hp hv2 hq2 hq hqB k (g - 1) (l + v1) e0 (by omega) (by omega) (by omega) (by rw [Nat.add_mul] at h5; omega)
    · rename_i hc
      simp only [not_or, Nat.not_lt] at hc
      simp only
      have e1 : g * (v1 * b32 + v2) = g * v1 * b32 + g * v2 := by rw [Nat.mul_add, Nat.mul_assoc]
      have e2 : t * b32 = g * v1 * b32 + l * b32 := by rw [← h1, Nat.add_mul]
      have e3 : g * (v1 * b32 + v2) ≤ t * b32 + d2 := by omega
      have e4 : g * (v1 * b32 + v2) * p ≤ (t * b32 + d2) * p := Nat.mul_le_mul_right _ e3
      have e5 : g * V ≤ g * ((v1 * b32 + v2 + 1) * p) := Nat.mul_le_mul_left _ (Nat.le_of_lt hV2)
      have e6 : g * ((v1 * b32 + v2 + 1) * p) = g * (v1 * b32 + v2) * p + g * p := by
        rw [← Nat.mul_assoc, Nat.mul_add g (v1 * b32 + v2) 1, Nat.mul_one, Nat.add_mul]
      have e7 : (g + 1) * p ≤ b32 * p := Nat.mul_le_mul_right _ (by omega)
      rw [Nat.add_mul] at e7
      have e8 : g * V < (q + 2) * V := by
        have : (q + 2) * V = (q + 1) * V + V := by rw [Nat.add_mul q 2, Nat.add_mul q 1]; omega
        omega
      have := lt_of_mul e8
      omega

theorem dgt_div (x a i : Nat) : dgt (x / b32 ^ a) i = dgt x (a + i) := by
  unfold dgt; rw [Nat.div_div_eq_div_mul, ← Nat.pow_add]

theorem gG_ok {v1 v2 d2 t V W p q : Nat} (hV : (v1 * b32 + v2) * p ≤ V) (hV2 : V < (v1 * b32 + v2 + 1) * p) (hW : (t * b32 + d2) * p ≤ W) (hW2 : W < (t * b32 + d2 + 1) * p) (hVp : b32 * p ≤ V) (hp : 0 < p)
    (hv2 : v2 < b32) (hq2 : W < (q + 1) * V) (hq : q * V ≤ W) (hqB : q < b32) (g l : Nat) (h1 : g * v1 + l = t) (h2 : q ≤ g) (h3 : g ≤ b32 + 1) (h4 : l < b32) (h5 : b32 ≤ b32 * v1 + l) : q ≤ gG v1 v2 d2 g l ∧ gG v1 v2 d2 g l ≤ q + 1 ∧ gG v1 v2 d2 g l < b32 := by
  have := gz_ok hV hV2 hW hW2 hVp hp hv2 hq2 hq hqB b32 g l h1 h2 h3 h4 h5
  unfold gG
  exact this
theorem gAt_eq (u v a m : Nat) : gAt u v a (m + 2) = gG (dgt v (m + 1)) (dgt v m) (dgt u (a + m)) ((dgt u (a + (m + 2)) * b32 + dgt u (a + (m + 1))) / dgt v (m + 1)) ((dgt u (a + (m + 2)) * b32 + dgt u (a + (m + 1))) % dgt v (m + 1)) := by
  unfold gAt
  simp only [show m + 2 - 1 = m + 1 by omega, show m + 2 - 2 = m by omega, show a + (m + 2) - 1 = a + (m + 1) by omega, show a + (m + 2) - 2 = a + m by omega]
theorem gAt_ok' {u v a m : Nat} (hv : v < b32 ^ (m + 2)) (htop : 2147483648 ≤ dgt v (m + 1)) (hu : u / b32 ^ a < v * b32) :
    u / b32 ^ a / v ≤ gAt u v a (m + 2) ∧ gAt u v a (m + 2) ≤ u / b32 ^ a / v + 1 ∧ gAt u v a (m + 2) < b32 ∧ (dgt u (a + (m + 2)) * b32 + dgt u (a + (m + 1))) / dgt v (m + 1) ≤ b32 + 1 := by
  have hB : b32 = 4294967296 := rfl
  have hp := b32_pos m
  rw [gAt_eq]
  have t2 := dgt_div u a (m + 2)
  have t1 := dgt_div u a (m + 1)
  have t0 := dgt_div u a m
  generalize dgt u (a + (m + 2)) = T2 at *
  generalize dgt u (a + (m + 1)) = T1 at *
  generalize dgt u (a + m) = T0 at *
  generalize hWd : u / b32 ^ a = W at *
  have hv2 : 0 < v := by
    rcases Nat.eq_zero_or_pos v with h | h
    · subst h; omega
    · exact h
  have hq := Nat.div_add_mod W v
  have hql := Nat.mod_lt W hv2
  have hWlt : W < b32 ^ (m + 3) := by
    have : v * b32 ≤ b32 ^ (m + 2) * b32 := Nat.mul_le_mul_right _ (Nat.le_of_lt hv)
    have e : b32 ^ (m + 3) = b32 ^ (m + 2) * b32 := Nat.pow_succ _ _
    omega
  -- the parts of v
  have v1 : v / b32 ^ (m + 1) = dgt v (m + 1) := by
    rw [div_next v (m + 1), (Nat.div_eq_zero_iff_lt (b32_pos _)).2 (show v < b32 ^ (m + 1 + 1) from hv)]; omega
  have v2 : v / b32 ^ m = dgt v (m + 1) * b32 + dgt v m := by rw [div_next v m, v1, Nat.mul_comm]; omega
  have w1 : W / b32 ^ (m + 2) = T2 := by
    rw [← t2, div_next W (m + 2), (Nat.div_eq_zero_iff_lt (b32_pos _)).2 (show W < b32 ^ (m + 2 + 1) from hWlt)]; omega
  have w2 : W / b32 ^ (m + 1) = T2 * b32 + T1 := by rw [div_next W (m + 1), show m + 1 + 1 = m + 2 by omega, w1, t1, Nat.mul_comm]; omega
  have w3 : W / b32 ^ m = (T2 * b32 + T1) * b32 + T0 := by rw [div_next W m, w2, t0, Nat.mul_comm]; omega
  have f1 : dgt v (m + 1) * b32 + dgt v m = v / b32 ^ m := v2.symm
  have g1 : (v / b32 ^ m) * b32 ^ m ≤ v := Nat.div_mul_le_self _ _
  have g2 : v < (v / b32 ^ m + 1) * b32 ^ m := by have := Nat.lt_mul_div_succ v hp; rw [Nat.mul_comm] at this; exact this
  have g3 : (W / b32 ^ m) * b32 ^ m ≤ W := Nat.div_mul_le_self _ _
  have g4 : W < (W / b32 ^ m + 1) * b32 ^ m := by have := Nat.lt_mul_div_succ W hp; rw [Nat.mul_comm] at this; exact this
  generalize ht : T2 * b32 + T1 = t at *
  have d1pos : 0 < dgt v (m + 1) := by omega
  have hd1 := dgt_lt v (m + 1)
  have hd2 := dgt_lt v m
  have hVp : b32 * b32 ^ m ≤ v := by
    have : b32 * b32 ^ m ≤ (dgt v (m + 1) * b32 + dgt v m) * b32 ^ m := Nat.mul_le_mul_right _ (by
      have : 1 * b32 ≤ dgt v (m + 1) * b32 := Nat.mul_le_mul_right _ d1pos
      omega)
    rw [f1] at this; omega
  have hqW : W < (W / v + 1) * v := by have := Nat.lt_mul_div_succ W hv2; rw [Nat.mul_comm] at this; exact this
  have hqle : W / v * v ≤ W := Nat.div_mul_le_self _ _
  have hqB : W / v < b32 := by rw [Nat.div_lt_iff_lt_mul hv2, Nat.mul_comm]; exact hu
  -- the first guess
  have ha : t < (dgt v (m + 1) + 1) * b32 := by
    rw [← w2, Nat.div_lt_iff_lt_mul (b32_pos _)]
    have e1 : v < (dgt v (m + 1) + 1) * b32 ^ (m + 1) := by
      have := Nat.lt_mul_div_succ v (b32_pos (m + 1))
      rw [v1, Nat.mul_comm] at this; exact this
    have e2 : v * b32 < (dgt v (m + 1) + 1) * b32 ^ (m + 1) * b32 := (Nat.mul_lt_mul_right (by decide)).2 e1
    have e3 : (dgt v (m + 1) + 1) * b32 * b32 ^ (m + 1) = (dgt v (m + 1) + 1) * b32 ^ (m + 1) * b32 := by simp only [Nat.mul_assoc, Nat.mul_comm b32]
    omega
  have hg0 : t / dgt v (m + 1) ≤ b32 + 1 := by
    have : t / dgt v (m + 1) < b32 + 2 := by
      rw [Nat.div_lt_iff_lt_mul d1pos]
      have e1 : (dgt v (m + 1) + 1) * b32 = dgt v (m + 1) * b32 + b32 := by rw [Nat.add_mul, Nat.one_mul]
      have e2 : (b32 + 2) * dgt v (m + 1) = dgt v (m + 1) * b32 + 2 * dgt v (m + 1) := by rw [Nat.add_mul, Nat.mul_comm b32]
      omega
    omega
  have hqg : W / v ≤ t / dgt v (m + 1) := by
    rw [Nat.le_div_iff_mul_le d1pos, ← w2, Nat.le_div_iff_mul_le (b32_pos _)]
    have e1 : dgt v (m + 1) * b32 ^ (m + 1) ≤ v := by rw [← v1]; exact Nat.div_mul_le_self _ _
    have e2 : W / v * (dgt v (m + 1) * b32 ^ (m + 1)) ≤ W / v * v := Nat.mul_le_mul_left _ e1
    rw [← Nat.mul_assoc] at e2
    omega
  have hmod := Nat.mod_lt t d1pos
  have hdm := Nat.div_add_mod t (dgt v (m + 1))
  have hfin := gG_ok (v1 := dgt v (m + 1)) (v2 := dgt v m) (d2 := T0) (t := t) (V := v) (W := W) (p := b32 ^ m) (q := W / v) (by rw [f1]; exact g1) (by rw [f1]; exact g2) (by rw [← w3]; exact g3) (by rw [← w3]; exact g4) hVp hp hd2 hqW hqle hqB
    (t / dgt v (m + 1)) (t % dgt v (m + 1)) (by rw [Nat.mul_comm]; exact hdm) hqg hg0 (by omega) (by
      have : b32 * 1 ≤ b32 * dgt v (m + 1) := Nat.mul_le_mul_left _ d1pos
      omega)
  exact ⟨hfin.1, hfin.2.1, hfin.2.2, hg0⟩
theorem gAt_ok {u v a n : Nat} (hn : 2 ≤ n) (hv : v < b32 ^ n) (htop : 2147483648 ≤ dgt v (n - 1)) (hu : u / b32 ^ a < v * b32) :
    u / b32 ^ a / v ≤ gAt u v a n ∧ gAt u v a n ≤ u / b32 ^ a / v + 1 ∧ gAt u v a n < b32 ∧ (dgt u (a + n) * b32 + dgt u (a + n - 1)) / dgt v (n - 1) ≤ b32 + 1 := by
  obtain ⟨m, rfl⟩ : ∃ m, n = m + 2 := ⟨n - 2, by omega⟩
  have := gAt_ok' (u := u) (a := a) hv htop hu
  exact this

theorem mod_once {a b : Nat} (h : b ≤ a) (h2 : a < 2 * b) : a % b = a - b := by
  rw [Nat.mod_eq_sub_mod h, Nat.mod_eq_of_lt (by omega)]
theorem less_val {u v g a n : Nat} (hv : v < b32 ^ n) (hW : u / b32 ^ a < b32 ^ (n + 1)) (hg : g < b32) (hgv : g * v ≤ u / b32 ^ a + v) :
    (g * v ≤ u / b32 ^ a → lessU u v g a n = false ∧ lessY u v g a n = u - b32 ^ a * (g * v)) ∧
    (u / b32 ^ a < g * v → lessU u v g a n = true ∧ lessY u v g a n < b32 ^ (a + (n + 1)) ∧ moreY (lessY u v g a n) v a n = u - b32 ^ a * ((g - 1) * v)) := by
  have hB : b32 = 4294967296 := rfl
  have hu := Nat.mod_add_div u (b32 ^ a)
  have hul := mod_lt32 u a
  obtain ⟨l1, l2⟩ := ls_ok (u / b32 ^ a) v g n
  have l3 := ls_lt (W := u / b32 ^ a) (v := v) (i := n) hg
  have hD := dgt_lt (u / b32 ^ a) n
  have hWd : u / b32 ^ a = u / b32 ^ a % b32 ^ n + b32 ^ n * dgt (u / b32 ^ a) n := by
    have := mod_next (u / b32 ^ a) n
    rw [Nat.mod_eq_of_lt hW] at this; exact this
  have hz : u / b32 ^ a / b32 ^ (n + 1) = 0 := (Nat.div_eq_zero_iff_lt (b32_pos _)).2 hW
  have ly : lessY u v g a n = u % b32 ^ a + b32 ^ a * (lsW (u / b32 ^ a) v g n + b32 ^ n * ((dgt (u / b32 ^ a) n + b32 - lsB (u / b32 ^ a) v g n) % b32)) := by
    unfold lessY
    rw [win_dset l2]
    unfold winY
    rw [hz, Nat.mul_zero, Nat.add_zero]
  rw [Nat.mod_eq_of_lt hv] at l1
  unfold lessU
  rw [ly]
  generalize hW0 : u / b32 ^ a = W at *
  generalize dgt W n = D at *
  generalize lsB W v g n = b at *
  generalize lsW W v g n = w at *
  generalize hR : W % b32 ^ n = R at *
  generalize hlo : u % b32 ^ a = lo at *
  have hpn := b32_pos n
  have hs : b32 ^ (n + 1) = b32 ^ n * b32 := Nat.pow_succ _ _
  refine ⟨fun hle => ?_, fun hlt => ?_⟩
  · have hDb : b ≤ D := by
      refine Nat.le_of_not_lt fun hh => ?_
      have : b32 ^ n * (D + 1) ≤ b32 ^ n * b := Nat.mul_le_mul_left _ hh
      rw [Nat.mul_add] at this
      omega
    have e1 : (D + b32 - b) % b32 = D - b := by
      rw [show D + b32 - b = (D - b) + b32 by omega, Nat.add_mod_right, Nat.mod_eq_of_lt (by omega)]
    have e2 : b32 ^ n * (D - b) + b32 ^ n * b = b32 ^ n * D := by rw [← Nat.mul_add]; congr 1; omega
    refine ⟨by simp; omega, ?_⟩
    rw [e1, show w + b32 ^ n * (D - b) = W - g * v by omega, Nat.mul_sub]
    have : b32 ^ a * (g * v) ≤ b32 ^ a * W := Nat.mul_le_mul_left _ hle
    omega
  · have hDb : D < b := by
      refine Nat.lt_of_not_le fun hh => ?_
      have : b32 ^ n * b ≤ b32 ^ n * D := Nat.mul_le_mul_left _ hh
      omega
    have e1 : (D + b32 - b) % b32 = D + b32 - b := Nat.mod_eq_of_lt (by omega)
    have e2 : b32 ^ n * (D + b32 - b) + b32 ^ n * b = b32 ^ n * D + b32 ^ n * b32 := by rw [← Nat.mul_add, ← Nat.mul_add]; congr 1; omega
    have hg1 : 1 ≤ g := by rcases Nat.eq_zero_or_pos g with h | h; (subst h; omega); exact h
    have e3 : (g - 1) * v + v = g * v := by rw [← Nat.succ_mul]; congr 1; omega
    rw [e1]
    have e4 : w + b32 ^ n * (D + b32 - b) = W + b32 ^ (n + 1) - g * v := by omega
    have hvlt : v < b32 ^ (n + 1) := by rw [hs]; exact Nat.lt_of_lt_of_le hv (Nat.le_mul_of_pos_right _ (by decide))
    have e5 : W + b32 ^ (n + 1) - g * v < b32 ^ (n + 1) := by omega
    rw [e4]
    generalize hW2 : W + b32 ^ (n + 1) - g * v = W2 at *
    have hx : (lo + b32 ^ a * W2) / b32 ^ a = W2 := by rw [Nat.add_mul_div_left _ _ (b32_pos a), Nat.div_eq_of_lt hul, Nat.zero_add]
    have hx2 : (lo + b32 ^ a * W2) % b32 ^ a = lo := by rw [Nat.add_mul_mod_self_left, Nat.mod_eq_of_lt hul]
    refine ⟨by simpa using hDb, ?_, ?_⟩
    · rw [Nat.pow_add]
      have : b32 ^ a * (W2 + 1) ≤ b32 ^ a * b32 ^ (n + 1) := Nat.mul_le_mul_left _ e5
      rw [Nat.mul_add] at this
      omega
    · unfold moreY
      have m1 : mrW W2 v n < b32 ^ n := Nat.mod_lt _ hpn
      rw [hx, win_dset m1]
      unfold winY
      rw [hx2, (Nat.div_eq_zero_iff_lt (b32_pos _)).2 e5, Nat.mul_zero, Nat.add_zero]
      have hW2d : W2 = W2 % b32 ^ n + b32 ^ n * dgt W2 n := by
        have := mod_next W2 n
        rw [Nat.mod_eq_of_lt e5] at this; exact this
      have m2 := Nat.mod_add_div (W2 % b32 ^ n + v % b32 ^ n) (b32 ^ n)
      have m3 : mrW W2 v n + b32 ^ n * mrC W2 v n = W2 % b32 ^ n + v := by
        unfold mrW mrC; rw [m2, Nat.mod_eq_of_lt hv]
      have m4 := mrC_le W2 v n
      have hD2 := dgt_lt W2 n
      generalize dgt W2 n = D2 at *
      generalize mrW W2 v n = w2 at *
      generalize mrC W2 v n = c at *
      have e6 : w2 + b32 ^ n * (D2 + c) = W2 + v := by rw [Nat.mul_add]; omega
      have e7 : b32 ≤ D2 + c := by
        refine Nat.le_of_not_lt fun hh => ?_
        have : b32 ^ n * (D2 + c + 1) ≤ b32 ^ n * b32 := Nat.mul_le_mul_left _ hh
        rw [Nat.mul_add] at this
        omega
      have e8 : (D2 + c) % b32 = D2 + c - b32 := mod_once e7 (by omega)
      have e9 : b32 ^ n * (D2 + c - b32) + b32 ^ n * b32 = b32 ^ n * (D2 + c) := by rw [← Nat.mul_add, Nat.sub_add_cancel e7]
      have e10 : w2 + b32 ^ n * (D2 + c - b32) = W - (g - 1) * v := by omega
      rw [e8, e10, Nat.mul_sub]
      have : b32 ^ a * ((g - 1) * v) ≤ b32 ^ a * W := Nat.mul_le_mul_left _ (by omega)
      omega
end Go.Proofs.Ytakmgioeldbkcaa

/- Contracts: long division (mul.long). -/
namespace Go.Proofs.Ytakmgioeldbkcaa
open Go Go.RowKit

theorem lmain_body (x : Nat) (y : Nat) (u : Nat) (v : Nat) (q : Nat) (n : Nat) (s : Nat) (a : Int) : stepT longX2 100 fi_mul_digits_long [0, 1, 0, 1, 1, 1, 1, 1, 1, 1] [4, 5, 6, 7, 10, 11, 12, 13] 13 (kpat [4, 5, 6, 11, 12] 0 80) [false, false, true, true, true, false, false, false, false, false, false, false, false] (lmain_st x y u v (dg 17 q) n s a) =
    (.ite (decide (a ≥ (0 : Int)))
     (.need (isDg (dg 17 u))
     (.need (isDg (dg 17 v))
     (.need (decide ((0 : Int) ≤ a))
     (.need (decide ((0 : Int) ≤ ((n : Nat) : Int)))
     (.need (gPre (valI (dg 17 u)) (valI (dg 17 v)) (Int.toNat a) (Int.toNat ((n : Nat) : Int)))
     (.need (isDg (dg 17 u))
     (.need (isDg (dg 17 v))
     (.need ((decide ((0 : Int) ≤ (((gAt (valI (dg 17 u)) (valI (dg 17 v)) (Int.toNat a) (Int.toNat ((n : Nat) : Int))) : Nat) : Int))) && (decide ((((gAt (valI (dg 17 u)) (valI (dg 17 v)) (Int.toNat a) (Int.toNat ((n : Nat) : Int))) : Nat) : Int) < (4294967296 : Int))))
     (.need (decide ((0 : Int) ≤ a))
     (.need (decide ((0 : Int) ≤ ((n : Nat) : Int)))
     (.need (decide (((Int.toNat a) + (Int.toNat ((n : Nat) : Int))) < 17))
     (.ite (lessU (valI (dg 17 u)) (valI (dg 17 v)) (Int.toNat (((gAt (valI (dg 17 u)) (valI (dg 17 v)) (Int.toNat a) (Int.toNat ((n : Nat) : Int))) : Nat) : Int)) (Int.toNat a) (Int.toNat ((n : Nat) : Int)))
      (.need (isDg (dg 17 (lessY (valI (dg 17 u)) (valI (dg 17 v)) (Int.toNat (((gAt (valI (dg 17 u)) (valI (dg 17 v)) (Int.toNat a) (Int.toNat ((n : Nat) : Int))) : Nat) : Int)) (Int.toNat a) (Int.toNat ((n : Nat) : Int)))))
      (.need (isDg (dg 17 v))
      (.need (decide ((0 : Int) ≤ a))
      (.need (decide ((0 : Int) ≤ ((n : Nat) : Int)))
      (.need (decide (((Int.toNat a) + (Int.toNat ((n : Nat) : Int))) < 17))
      (.need ((decide ((0 : Int) ≤ a)) && (decide (a < (17 : Int))))
      (.need (Nat.ble ((Int.toNat a) + 1) 17)
      (.leaf (.normal, lmain_st x y (moreY (valI (dg 17 (lessY (valI (dg 17 u)) (valI (dg 17 v)) (Int.toNat (((gAt (valI (dg 17 u)) (valI (dg 17 v)) (Int.toNat a) (Int.toNat ((n : Nat) : Int))) : Nat) : Int)) (Int.toNat a) (Int.toNat ((n : Nat) : Int))))) (valI (dg 17 v)) (Int.toNat a) (Int.toNat ((n : Nat) : Int))) v (List.set (dg 17 q) (Int.toNat a) (IntKind.wrap .u64 ((((gAt (valI (dg 17 u)) (valI (dg 17 v)) (Int.toNat a) (Int.toNat ((n : Nat) : Int))) : Nat) : Int) - (1 : Int)))) n s (IntKind.wrap .i64 (a - (1 : Int))))))))))))
      (.need ((decide ((0 : Int) ≤ a)) && (decide (a < (17 : Int))))
      (.need (Nat.ble ((Int.toNat a) + 1) 17)
      (.leaf (.normal, lmain_st x y (lessY (valI (dg 17 u)) (valI (dg 17 v)) (Int.toNat (((gAt (valI (dg 17 u)) (valI (dg 17 v)) (Int.toNat a) (Int.toNat ((n : Nat) : Int))) : Nat) : Int)) (Int.toNat a) (Int.toNat ((n : Nat) : Int))) v (List.set (dg 17 q) (Int.toNat a) (((gAt (valI (dg 17 u)) (valI (dg 17 v)) (Int.toNat a) (Int.toNat ((n : Nat) : Int))) : Nat) : Int)) n s (IntKind.wrap .i64 (a - (1 : Int)))))))))))))))))))
     (.leaf ((.exit 3), lmain_st x y u v (dg 17 q) n s a))) := by kernel_rfl

theorem valI_dg17 {x : Nat} (h : x < b32 ^ 17) : valI (dg 17 x) = x := by rw [valI_dg, Nat.mod_eq_of_lt h]
theorem pow_le32 {i j : Nat} (h : i ≤ j) : b32 ^ i ≤ b32 ^ j := Nat.pow_le_pow_right (by decide) h
/-- What holds ahead of the round 'k - 1': 'u' is left of 'U', 'q' is the quotient's upper digits. -/
def LInv (U v n : Nat) (z : Nat × Nat × Nat) : Prop := z.1 + n ≤ 17 ∧ z.2.1 < v * b32 ^ z.1 ∧ z.2.1 + v * z.2.2 = U ∧ z.2.2 % b32 ^ z.1 = 0 ∧ z.2.2 < b32 ^ 17
theorem lmain_loop (x y U v n s : Nat) (hn : 2 ≤ n) (hn17 : n ≤ 17) (hv : v < b32 ^ n) (htop : 2147483648 ≤ dgt v (n - 1)) (hU : U < b32 ^ 17) (hUv : U < v * b32 ^ (17 - n)) :
    CodeR Try.prog (.loop (loopAt fi_mul_digits_long [0, 1, 0, 1, 1, 1, 1, 1, 1, 1])) (lmain_st x y U v (dg 17 0) n s ((16 : Int) - n)).s
    (fun e s' => e = .exit 3 ∧ s' = (lmain_st x y (U % v) v (dg 17 (U / v)) n s (-1)).s) := by
  have hB : b32 = 4294967296 := rfl
  have hv17 : v < b32 ^ 17 := Nat.lt_of_lt_of_le hv (pow_le32 hn17)
  have hv0 : 0 < v := by
    rcases Nat.eq_zero_or_pos v with h | h
    · subst h; omega
    · exact h
  refine CodeR.of_sim (loop_rule mixed fi_mul_digits_long [0, 1, 0, 1, 1, 1, 1, 1, 1, 1] [4, 5, 6, 7, 10, 11, 12, 13] 13 (kpat [4, 5, 6, 11, 12] 0 80) [false, false, true, true, true, false, false, false, false, false, false, false, false]
    (σ := Nat × Nat × Nat) (fun z => lmain_st x y z.2.1 v (dg 17 z.2.2) n s ((z.1 : Int) - 1)) 100 (LInv U v n) (fun z => z.1) _ (loop_sub' (c := loopAt fi_mul_digits_long [0, 1, 0, 1, 1, 1, 1, 1, 1, 1]) (by kernel_rfl)) (fun _ => Nat.le_refl 13) ?_ (17 - n, U, 0) ⟨by dsimp only; omega, hUv, by simp, by simp, b32_pos 17⟩) (Sim.of_eq ?_)
  · rintro ⟨k, u, q⟩ ⟨h1, h2, h3, h4, h5⟩
    simp only at h1 h2 h3 h4 h5 ⊢
    refine ⟨longX2, ?_⟩
    rw [lmain_body]
    have hu17 : u < b32 ^ 17 := by
      have : u ≤ U := by rw [← h3]; exact Nat.le_add_right _ _
      omega
    rw [valI_dg17 hu17, valI_dg17 hv17]
    refine ⟨fun hc => ?_, fun hc => ?_⟩
    · obtain ⟨a, rfl⟩ : ∃ a, k = a + 1 := ⟨k - 1, by simp at hc; omega⟩
      have ha : ((a + 1 : Nat) : Int) - 1 = (a : Int) := by omega
      have hua : u / b32 ^ a < v * b32 := by
        rw [Nat.div_lt_iff_lt_mul (b32_pos a), Nat.mul_assoc, ← Nat.pow_succ', ]
        exact h2
      obtain ⟨g1, g2, g3, g4⟩ := gAt_ok hn hv htop hua
      have hWn : u / b32 ^ a < b32 ^ (n + 1) := by
        have : v * b32 ≤ b32 ^ n * b32 := Nat.mul_le_mul_right _ (Nat.le_of_lt hv)
        rw [← Nat.pow_succ] at this; exact Nat.lt_of_lt_of_le hua this
      obtain ⟨Q, hQ⟩ : ∃ Q, Q = u / b32 ^ a / v := ⟨_, rfl⟩
      rw [← hQ] at g1 g2
      have hdm : Q * v ≤ u / b32 ^ a := by rw [hQ]; exact Nat.div_mul_le_self (u / b32 ^ a) v
      have hlt : u / b32 ^ a < v * (Q + 1) := by rw [hQ]; exact Nat.lt_mul_div_succ (u / b32 ^ a) hv0
      have hgv : gAt u v a n * v ≤ u / b32 ^ a + v := by
        have : gAt u v a n * v ≤ (Q + 1) * v := Nat.mul_le_mul_right _ g2
        rw [Nat.add_mul, Nat.one_mul] at this; omega
      obtain ⟨r1, r2⟩ := less_val hv hWn g3 hgv
      have hq1 : Q < b32 := by rw [hQ, Nat.div_lt_iff_lt_mul hv0, Nat.mul_comm]; exact hua
      have hpre : gPre u v a n = true := by
        unfold gPre
        simp only [Bool.and_eq_true, decide_eq_true_eq]
        exact ⟨⟨⟨hn, by omega⟩, by omega⟩, g4⟩
      have n1 : (decide ((0 : Int) ≤ (a : Int))) = true := by simp
      have n2 : (decide ((0 : Int) ≤ (n : Int))) = true := by simp
      have n3 : (decide (a + n < 17)) = true := by simp; omega
      have n4 : Nat.ble (a + 1) 17 = true := by simp; omega
      have n5 : ((decide ((0 : Int) ≤ ((gAt u v a n : Nat) : Int))) && (decide (((gAt u v a n : Nat) : Int) < (4294967296 : Int)))) = true := by simp; omega
      -- the digit 'd' is laid into the quotient, and so much is taken off
      have fin : ∀ d, d = Q → Sim (lmain_st x y (u - b32 ^ a * (d * v)) v ((dg 17 q).set a (d : Int)) n s (IntKind.wrap .i64 ((a : Int) - 1))).s (lmain_st x y (u - b32 ^ a * (d * v)) v (dg 17 (q + b32 ^ a * d)) n s ((a : Int) - 1)).s ∧ LInv U v n (a, u - b32 ^ a * (d * v), q + b32 ^ a * d) := by
        intro d hd
        have hdb : d < b32 := by rw [hd]; exact hq1
        have e0 : q = 0 + b32 ^ a * (0 + b32 * (q / b32 ^ (a + 1))) := by
          have := Nat.mod_add_div q (b32 ^ (a + 1))
          rw [h4] at this
          rw [Nat.zero_add, Nat.zero_add, ← Nat.mul_assoc, ← Nat.pow_succ]
          show q = b32 ^ (a + 1) * (q / b32 ^ (a + 1))
          omega
        have e1 : dset q a d = q + b32 ^ a * d := by
          conv => lhs; rw [e0]
          rw [form_dset (b32_pos a) (by decide), Nat.mul_add]
          conv => rhs; rw [e0]
          rw [Nat.zero_add, Nat.zero_add, Nat.zero_add]
          omega
        have hle : b32 ^ a * (d * v) ≤ u := by
          have f1 : b32 ^ a * (d * v) ≤ b32 ^ a * (u / b32 ^ a) := Nat.mul_le_mul_left _ (by rw [hd]; exact hdm)
          have f2 := Nat.mul_div_le u (b32 ^ a)
          omega
        refine ⟨Sim.of_eq ?_, by dsimp only; omega, ?_, ?_, ?_, ?_⟩
        · rw [dg_set hdb, e1, wrap_i64_in (by omega) (by omega)]
        · -- what is left is below
          dsimp only
          have f1 := Nat.mod_add_div u (b32 ^ a)
          have f2 := mod_lt32 u a
          have f3 : u / b32 ^ a + 1 ≤ (d + 1) * v := by rw [hd, Nat.mul_comm]; exact hlt
          have f4 : b32 ^ a * (u / b32 ^ a + 1) ≤ b32 ^ a * ((d + 1) * v) := Nat.mul_le_mul_left _ f3
          rw [Nat.add_mul d, Nat.mul_add, Nat.mul_add, Nat.mul_one, Nat.one_mul, Nat.mul_comm (b32 ^ a) v] at f4
          omega
        · dsimp only
          have e2 : v * (q + b32 ^ a * d) = v * q + b32 ^ a * (d * v) := by rw [Nat.mul_add, Nat.mul_comm v (b32 ^ a * d), Nat.mul_assoc]
          omega
        · dsimp only
          rw [e0, Nat.zero_add, Nat.zero_add, ← Nat.mul_add, Nat.mul_mod_right]
        · dsimp only
          have e3 : v * (q + b32 ^ a * d) ≤ U := by
            have e2 : v * (q + b32 ^ a * d) = v * q + b32 ^ a * (d * v) := by rw [Nat.mul_add, Nat.mul_comm v (b32 ^ a * d), Nat.mul_assoc]
            omega
          have e4 : 1 * (q + b32 ^ a * d) ≤ v * (q + b32 ^ a * d) := Nat.mul_le_mul_right _ hv0
          omega
      simp only [ha, toNat_c]
      refine ⟨isDg_dg _, isDg_dg _, n1, n2, hpre, isDg_dg _, isDg_dg _, n5, n1, n2, n3, fun hl => ?_, fun hl => ?_⟩
      · -- it was one too much
        have hgt : u / b32 ^ a < gAt u v a n * v := by
          refine Nat.lt_of_not_le fun hle => ?_
          rw [(r1 hle).1] at hl; simp at hl
        obtain ⟨_, y1, y2⟩ := r2 hgt
        have y3 : lessY u v (gAt u v a n) a n < b32 ^ 17 := Nat.lt_of_lt_of_le y1 (pow_le32 (by omega))
        rw [valI_dg17 y3, y2]
        have hd : gAt u v a n - 1 = Q := by
          have : ¬ gAt u v a n = Q := fun e => by rw [e] at hgt; omega
          omega
        have hg1 : 1 ≤ gAt u v a n := by
          rcases Nat.eq_zero_or_pos (gAt u v a n) with h | h
          · rw [h, Nat.zero_mul] at hgt; exact absurd hgt (Nat.not_lt_zero _)
          · exact h
        obtain ⟨k1, k2⟩ := fin _ hd
        rw [show (1 : Int) = ((1 : Nat) : Int) from rfl, wrap_sub_u64 hg1 (Nat.lt_trans g3 (by decide))]
        exact ⟨isDg_dg _, isDg_dg _, n1, n2, n3, in17 (by omega), n4, (a, _, _), k2, by dsimp only; omega, k1⟩
      · have hle : gAt u v a n * v ≤ u / b32 ^ a := by
          refine Nat.le_of_not_lt fun hgt => ?_
          rw [(r2 hgt).1] at hl; simp at hl
        rw [(r1 hle).2]
        have hd : gAt u v a n = Q := by
          have : gAt u v a n * v < (Q + 1) * v := by rw [Nat.mul_comm (Q + 1)]; omega
          have := lt_of_mul this
          omega
        obtain ⟨k1, k2⟩ := fin _ hd
        exact ⟨in17 (by omega), n4, (a, _, _), k2, by dsimp only; omega, k1⟩
    · have hk : k = 0 := by simp at hc; omega
      subst hk
      rw [Nat.pow_zero, Nat.mul_one] at h2
      have e1 : U / v = q := by rw [← h3, Nat.add_mul_div_left _ _ hv0, Nat.div_eq_of_lt h2, Nat.zero_add]
      have e2 : U % v = u := by rw [← h3, Nat.add_mul_mod_self_left, Nat.mod_eq_of_lt h2]
      rw [e1, e2]
      exact ⟨rfl, rfl⟩
  · have : ((17 - n : Nat) : Int) - 1 = (16 : Int) - n := by omega
    dsimp only
    rw [this]
end Go.Proofs.Ytakmgioeldbkcaa

/- Contracts: long division (mul.long). -/
namespace Go.Proofs.Ytakmgioeldbkcaa
open Go Go.RowKit

theorem lmainSub : subC fi_mul_digits_long.body [0, 1, 0, 1, 1, 1, 1, 1, 1, 1] = some (.loop (loopAt fi_mul_digits_long [0, 1, 0, 1, 1, 1, 1, 1, 1, 1])) := loop_sub' (c := loopAt fi_mul_digits_long [0, 1, 0, 1, 1, 1, 1, 1, 1, 1]) (by kernel_rfl)
noncomputable def lmainLC (x y U v n s : Nat) (hn : 2 ≤ n) (hn17 : n ≤ 17) (hv : v < b32 ^ n) (htop : 2147483648 ≤ dgt v (n - 1)) (hU : U < b32 ^ 17) (hUv : U < v * b32 ^ (17 - n)) : LCT Try.prog :=
  LCT.one fi_mul_digits_long [0, 1, 0, 1, 1, 1, 1, 1, 1, 1] _ _ (lmain_st x y (U % v) v (dg 17 (U / v)) n s (-1)) lmainSub (lmain_loop x y U v n s hn hn17 hv htop hU hUv)
noncomputable def longXa : EnvT Try.prog := { longX with lcs := [LCT.bad 103 [0, 0, 1, 1, 1, 1, 1]] }
noncomputable def longXb (x y U v n s : Nat) (hn : 2 ≤ n) (hn17 : n ≤ 17) (h0 : dgt y (n - 1) ≠ 0) (hv : v < b32 ^ n) (htop : 2147483648 ≤ dgt v (n - 1)) (hU : U < b32 ^ 17) (hUv : U < v * b32 ^ (17 - n)) : EnvT Try.prog :=
  { longX with lcs := [lshLC x y n (by omega) hn17 h0, lmainLC x y U v n s hn hn17 hv htop hU hUv] }

theorem longa_tree (x y : Nat) : (callT (longXa) (execT (longXa) 100) 103 [.ints .u64 17 (dg 17 x), .ints .u64 17 (dg 17 y)] [] [] 0 []).map CR.v =
    (.need (isDg (dg 17 y))
    (.ite ((((nd (valI (dg 17 y)) 17) : Nat) : Int) == (0 : Int))
     (.leaf (.tup [(.ints .u64 17 [(0 : Int), (0 : Int), (0 : Int), (0 : Int), (0 : Int), (0 : Int), (0 : Int), (0 : Int), (0 : Int), (0 : Int), (0 : Int), (0 : Int), (0 : Int), (0 : Int), (0 : Int), (0 : Int), (0 : Int)]), (.ints .u64 17 [(0 : Int), (0 : Int), (0 : Int), (0 : Int), (0 : Int), (0 : Int), (0 : Int), (0 : Int), (0 : Int), (0 : Int), (0 : Int), (0 : Int), (0 : Int), (0 : Int), (0 : Int), (0 : Int), (0 : Int)])]))
     (.ite ((((nd (valI (dg 17 y)) 17) : Nat) : Int) == (1 : Int))
      (.need (isDg (dg 17 x))
      (.need ((decide ((0 : Int) < (((dgt y 0) : Nat) : Int))) && (decide ((((dgt y 0) : Nat) : Int) < (4294967296 : Int))))
      (.leaf (.tup [(.ints .u64 17 (dg 17 ((valI (dg 17 x)) / (Int.toNat (((dgt y 0) : Nat) : Int))))), (.ints .u64 17 [((((valI (dg 17 x)) % (Int.toNat (((dgt y 0) : Nat) : Int))) : Nat) : Int), (0 : Int), (0 : Int), (0 : Int), (0 : Int), (0 : Int), (0 : Int), (0 : Int), (0 : Int), (0 : Int), (0 : Int), (0 : Int), (0 : Int), (0 : Int), (0 : Int), (0 : Int), (0 : Int)])]))))
      .bad))) := by kernel_rfl

theorem longb_tree (x y U v n s : Nat) (hn : 2 ≤ n) (hn17 : n ≤ 17) (h0 : dgt y (n - 1) ≠ 0) (hv : v < b32 ^ n) (htop : 2147483648 ≤ dgt v (n - 1)) (hU : U < b32 ^ 17) (hUv : U < v * b32 ^ (17 - n)) : (callT (longXb x y U v n s hn hn17 h0 hv htop hU hUv) (execT (longXb x y U v n s hn hn17 h0 hv htop hU hUv) 100) 103 [.ints .u64 17 (dg 17 x), .ints .u64 17 (dg 17 y)] [] [] 0 []).map CR.v =
    (.need (isDg (dg 17 y))
    (.ite ((((nd (valI (dg 17 y)) 17) : Nat) : Int) == (0 : Int))
     (.leaf (.tup [(.ints .u64 17 [(0 : Int), (0 : Int), (0 : Int), (0 : Int), (0 : Int), (0 : Int), (0 : Int), (0 : Int), (0 : Int), (0 : Int), (0 : Int), (0 : Int), (0 : Int), (0 : Int), (0 : Int), (0 : Int), (0 : Int)]), (.ints .u64 17 [(0 : Int), (0 : Int), (0 : Int), (0 : Int), (0 : Int), (0 : Int), (0 : Int), (0 : Int), (0 : Int), (0 : Int), (0 : Int), (0 : Int), (0 : Int), (0 : Int), (0 : Int), (0 : Int), (0 : Int)])]))
     (.ite ((((nd (valI (dg 17 y)) 17) : Nat) : Int) == (1 : Int))
      (.need (isDg (dg 17 x))
      (.need ((decide ((0 : Int) < (((dgt y 0) : Nat) : Int))) && (decide ((((dgt y 0) : Nat) : Int) < (4294967296 : Int))))
      (.leaf (.tup [(.ints .u64 17 (dg 17 ((valI (dg 17 x)) / (Int.toNat (((dgt y 0) : Nat) : Int))))), (.ints .u64 17 [((((valI (dg 17 x)) % (Int.toNat (((dgt y 0) : Nat) : Int))) : Nat) : Int), (0 : Int), (0 : Int), (0 : Int), (0 : Int), (0 : Int), (0 : Int), (0 : Int), (0 : Int), (0 : Int), (0 : Int), (0 : Int), (0 : Int), (0 : Int), (0 : Int), (0 : Int), (0 : Int)])]))))
      (.need (((n : Nat) : Int) == (((nd (valI (dg 17 y)) 17) : Nat) : Int))
      (.need true
      (.need ((dg 17 x) == (dg 17 x))
      (.need ((dg 17 y) == (dg 17 y))
      (.need true
      (.need true
      (.need true
      (.need true
      (.need (isDg (dg 17 x))
      (.need ((decide ((0 : Int) ≤ (((nsh (dgt y (n - 1))) : Nat) : Int))) && (decide ((((nsh (dgt y (n - 1))) : Nat) : Int) < (32 : Int))))
      (.need (isDg (dg 17 y))
      (.need ((decide ((0 : Int) ≤ (((nsh (dgt y (n - 1))) : Nat) : Int))) && (decide ((((nsh (dgt y (n - 1))) : Nat) : Int) < (32 : Int))))
      (.need (((n : Nat) : Int) == ((n : Nat) : Int))
      (.need (((s : Nat) : Int) == (((nsh (dgt y (n - 1))) : Nat) : Int))
      (.need (((16 : Int) - ((n : Nat) : Int)) == (IntKind.wrap .i64 ((16 : Int) - ((n : Nat) : Int))))
      (.need ((dg 17 x) == (dg 17 x))
      (.need ((dg 17 y) == (dg 17 y))
      (.need true
      (.need true
      (.need true
      (.need ((dg 17 U) == (dg 17 ((valI (dg 17 x)) * (2 ^ (Int.toNat (((nsh (dgt y (n - 1))) : Nat) : Int))))))
      (.need ((dg 17 v) == (dg 17 ((valI (dg 17 y)) * (2 ^ (Int.toNat (((nsh (dgt y (n - 1))) : Nat) : Int))))))
      (.need true
      (.need (isDg (dg 17 (U % v)))
      (.need ((decide ((0 : Int) ≤ ((s : Nat) : Int))) && (decide (((s : Nat) : Int) < (32 : Int))))
      (.need ((decide ((0 : Int) ≤ ((n : Nat) : Int))) && (decide (((n : Nat) : Int) ≤ (17 : Int))))
      (.leaf (.tup [(.ints .u64 17 (dg 17 (U / v))), (.ints .u64 17 (dg 17 (((valI (dg 17 (U % v))) % (b32 ^ (Int.toNat ((n : Nat) : Int)))) / (2 ^ (Int.toNat ((s : Nat) : Int))))))]))))))))))))))))))))))))))))))) := by kernel_rfl

def remD (x y : Nat) : Nat := if y = 0 then 0 else x % y
theorem dset_zero {r : Nat} : dset 0 0 r = r := by unfold dset; simp
theorem one_digit {r : Nat} (h : r < b32) : [((r : Nat) : Int), (0 : Int), (0 : Int), (0 : Int), (0 : Int), (0 : Int), (0 : Int), (0 : Int), (0 : Int), (0 : Int), (0 : Int), (0 : Int), (0 : Int), (0 : Int), (0 : Int), (0 : Int), (0 : Int)] = dg 17 r := by
  have := dg_set (n := 17) (x := 0) (k := 0) h
  rw [dset_zero, ← zeros17] at this
  rw [← this]; rfl
theorem shift_ok {x y n : Nat} (hx : x < b32 ^ 16) (hn : 2 ≤ n) (hn17 : n ≤ 17) (hy : y < b32 ^ n) (h0 : dgt y (n - 1) ≠ 0) :
    y * 2 ^ nsh (dgt y (n - 1)) < b32 ^ n ∧ 2147483648 ≤ dgt (y * 2 ^ nsh (dgt y (n - 1))) (n - 1) ∧ x * 2 ^ nsh (dgt y (n - 1)) < b32 ^ 17 ∧ x * 2 ^ nsh (dgt y (n - 1)) < y * 2 ^ nsh (dgt y (n - 1)) * b32 ^ (17 - n) := by
  have hd := dgt_lt y (n - 1)
  obtain ⟨p1, p2, _⟩ := nsh_spec h0 hd
  have hs : nsh (dgt y (n - 1)) ≤ 31 := by unfold nsh; omega
  have hB : b32 = 4294967296 := rfl
  have hyd : y / b32 ^ (n - 1) = dgt y (n - 1) := by
    rw [div_next y (n - 1), show n - 1 + 1 = n by omega, (Nat.div_eq_zero_iff_lt (b32_pos _)).2 hy]; omega
  generalize hk : nsh (dgt y (n - 1)) = s at *
  generalize hD : dgt y (n - 1) = d at *
  have h2 : 0 < 2 ^ s := Nat.pow_pos (by decide)
  have hbs : b32 = 2 ^ s * 2 ^ (32 - s) := by rw [← Nat.pow_add, show s + (32 - s) = 32 by omega]; rfl
  have hd1 : (d + 1) * 2 ^ s ≤ b32 := by
    have : d < 2 ^ (32 - s) := by
      refine Nat.lt_of_mul_lt_mul_right (a := 2 ^ s) ?_
      rw [Nat.mul_comm (2 ^ (32 - s)), ← hbs]; exact p1
    rw [hbs, Nat.mul_comm (2 ^ s)]; exact Nat.mul_le_mul_right _ this
  have e1 : b32 ^ n = b32 ^ (n - 1) * b32 := by rw [← Nat.pow_succ]; congr 1; omega
  have hylt : y < (d + 1) * b32 ^ (n - 1) := by
    have := Nat.lt_mul_div_succ y (b32_pos (n - 1))
    rw [hyd, Nat.mul_comm] at this; exact this
  have hyge : d * b32 ^ (n - 1) ≤ y := by rw [← hyd]; exact Nat.div_mul_le_self _ _
  have c1 : y * 2 ^ s < b32 ^ n := by
    have f1 : y * 2 ^ s < (d + 1) * b32 ^ (n - 1) * 2 ^ s := (Nat.mul_lt_mul_right h2).2 hylt
    have f2 : (d + 1) * 2 ^ s * b32 ^ (n - 1) ≤ b32 * b32 ^ (n - 1) := Nat.mul_le_mul_right _ hd1
    have f3 : (d + 1) * b32 ^ (n - 1) * 2 ^ s = (d + 1) * 2 ^ s * b32 ^ (n - 1) := by rw [Nat.mul_assoc, Nat.mul_comm (b32 ^ (n - 1)), ← Nat.mul_assoc]
    rw [e1, Nat.mul_comm (b32 ^ (n - 1))]
    omega
  have c2 : d * 2 ^ s * b32 ^ (n - 1) ≤ y * 2 ^ s := by
    have f1 : d * b32 ^ (n - 1) * 2 ^ s ≤ y * 2 ^ s := Nat.mul_le_mul_right _ hyge
    have f3 : d * b32 ^ (n - 1) * 2 ^ s = d * 2 ^ s * b32 ^ (n - 1) := by rw [Nat.mul_assoc, Nat.mul_comm (b32 ^ (n - 1)), ← Nat.mul_assoc]
    omega
  have c3 : 2147483648 * b32 ^ (n - 1) ≤ y * 2 ^ s := Nat.le_trans (Nat.mul_le_mul_right _ p2) c2
  have h31 : 2 ^ s ≤ 2147483648 := by
    have : 2 ^ s ≤ 2 ^ 31 := Nat.pow_le_pow_right (by decide) hs
    exact this
  have cx : x * 2 ^ s < b32 ^ 16 * 2147483648 := by
    have f1 : x * 2 ^ s < b32 ^ 16 * 2 ^ s := (Nat.mul_lt_mul_right h2).2 hx
    have f2 : b32 ^ 16 * 2 ^ s ≤ b32 ^ 16 * 2147483648 := Nat.mul_le_mul_left _ h31
    omega
  refine ⟨c1, ?_, ?_, ?_⟩
  · unfold dgt
    have g1 : y * 2 ^ s / b32 ^ (n - 1) < b32 := by rw [Nat.div_lt_iff_lt_mul (b32_pos _), Nat.mul_comm b32, ← e1]; exact c1
    rw [Nat.mod_eq_of_lt g1, Nat.le_div_iff_mul_le (b32_pos _)]
    exact c3
  · refine Nat.lt_of_lt_of_le cx ?_
    rw [show b32 ^ 17 = b32 ^ 16 * b32 from Nat.pow_succ _ _]
    exact Nat.mul_le_mul_left _ (by decide)
  · refine Nat.lt_of_lt_of_le cx ?_
    have f1 : 2147483648 * b32 ^ (n - 1) * b32 ^ (17 - n) ≤ y * 2 ^ s * b32 ^ (17 - n) := Nat.mul_le_mul_right _ c3
    rw [Nat.mul_assoc, ← Nat.pow_add, show n - 1 + (17 - n) = 16 by omega, Nat.mul_comm] at f1
    exact f1
theorem long_ok (x y : Nat) (hx : x < b32 ^ 16) (hy : y < b32 ^ 17) : Pure Try.prog 103 [.ints .u64 17 (dg 17 x), .ints .u64 17 (dg 17 y)] (.tup [.ints .u64 17 (dg 17 (x / y)), .ints .u64 17 (dg 17 (remD x y))]) := by
  have hx17 : x < b32 ^ 17 := Nat.lt_of_lt_of_le hx (pow_le32 (by omega))
  have hn17 := nd_le y 17
  have hyn := nd_lt 17 hy
  have hB : b32 = 4294967296 := rfl
  by_cases h2 : 2 ≤ nd y 17
  · have h0 := nd_top 17 (show nd y 17 ≠ 0 by omega)
    obtain ⟨c1, c2, c3, c4⟩ := shift_ok hx h2 hn17 hyn h0
    have hs : nsh (dgt y (nd y 17 - 1)) < 32 := by unfold nsh; omega
    have hy0 : y ≠ 0 := by
      rintro rfl
      exact h0 (by unfold dgt; simp)
    refine Pure.by_tree mixed _ 100 _ _ (longb_tree x y _ _ (nd y 17) (nsh (dgt y (nd y 17 - 1))) h2 hn17 h0 c1 c2 c3 c4) ?_
    rw [valI_dg17 hx17, valI_dg17 hy, toNat_c, toNat_c]
    generalize nd y 17 = n at *
    have hsp : 0 < 2 ^ nsh (dgt y (n - 1)) := Nat.pow_pos (by decide)
    have e1 : x * 2 ^ nsh (dgt y (n - 1)) % (y * 2 ^ nsh (dgt y (n - 1))) = x % y * 2 ^ nsh (dgt y (n - 1)) := Nat.mul_mod_mul_right _ _ _
    have hml : x % y * 2 ^ nsh (dgt y (n - 1)) < b32 ^ n := by
      rw [← e1]
      refine Nat.lt_trans (Nat.mod_lt _ (Nat.mul_pos (by omega) hsp)) c1
    generalize hS : nsh (dgt y (n - 1)) = s at *
    have k1 : ((decide ((0 : Int) ≤ (s : Int))) && (decide ((s : Int) < (32 : Int)))) = true := by simp; omega
    have k2 : (((n : Nat) : Int) == ((n : Nat) : Int)) = true := by simp
    have k3 : ((16 : Int) - ((n : Nat) : Int) == IntKind.wrap .i64 ((16 : Int) - ((n : Nat) : Int))) = true := by rw [wrap_i64_in (by omega) (by omega)]; simp
    have k4 : ((decide ((0 : Int) ≤ ((n : Nat) : Int))) && (decide (((n : Nat) : Int) ≤ (17 : Int)))) = true := by simp; omega
    have k5 : ∀ l : List Int, (l == l) = true := fun l => by simp
    refine ⟨isDg_dg _, fun h => ?_, fun _ => ⟨fun h => ?_, fun _ => ?_⟩⟩
    · exfalso; have := Int.natCast_eq_zero.1 (eq_of_beq h); omega
    · exfalso; have := eq_of_beq h; omega
    · refine ⟨k2, rfl, k5 _, k5 _, rfl, rfl, rfl, rfl, isDg_dg _, k1, isDg_dg _, k1, k2, by simp, k3, k5 _, k5 _, rfl, rfl, rfl, k5 _, k5 _, rfl, isDg_dg _, k1, k4, SameR.tup2 (SameV.ints ?_) (SameV.ints ?_)⟩
      · rw [Nat.mul_div_mul_right _ _ hsp]
      · rw [e1, valI_dg17 (Nat.lt_of_lt_of_le hml (pow_le32 hn17)), toNat_c, Nat.mod_eq_of_lt hml, Nat.mul_div_cancel _ hsp]
        unfold remD; rw [if_neg hy0]
  · refine Pure.by_tree mixed _ 100 _ _ (longa_tree x y) ?_
    rw [valI_dg17 hx17, valI_dg17 hy, toNat_c]
    refine ⟨isDg_dg _, fun h => ?_, fun h => ⟨fun h1 => ?_, fun h1 => ?_⟩⟩
    · have hz := nd_zero (Int.natCast_eq_zero.1 (eq_of_beq h)) hy
      subst hz
      refine SameR.tup2 (SameV.ints ?_) (SameV.ints ?_)
      · rw [Nat.div_zero]; exact zeros17
      · unfold remD; rw [if_pos rfl]; exact zeros17
    · have hn1 : nd y 17 = 1 := by have := eq_of_beq h1; omega
      have h0 := nd_top 17 (show nd y 17 ≠ 0 by omega)
      rw [hn1] at h0 hyn
      have hyB : y < b32 := by simpa using hyn
      have hd0 : dgt y 0 = y := by unfold dgt; simp [Nat.mod_eq_of_lt hyB]
      simp only [Nat.sub_self] at h0
      rw [hd0] at h0 ⊢
      have hml : x % y < b32 := Nat.lt_trans (Nat.mod_lt _ (by omega)) hyB
      refine ⟨isDg_dg _, by simp; omega, SameR.tup2 (SameV.ints rfl) (SameV.ints ?_)⟩
      unfold remD; rw [if_neg h0, one_digit hml]
    · exfalso
      have a1 : nd y 17 ≠ 0 := fun e => by rw [e] at h; simp at h
      have a2 : nd y 17 ≠ 1 := fun e => by rw [e] at h1; simp at h1
      omega
noncomputable def c_long : Ctr Try.prog := Ctr.of 103 (fun | [.ints .u64 17 l, .ints .u64 17 m] => some ([isDg l, isDg m, decide (valI l < b32 ^ 16)], .tup [.ints .u64 17 (dg 17 (valI l / valI m)), .ints .u64 17 (dg 17 (remD (valI l) (valI m)))]) | _ => none) (by
  intro args ob v h hob
  split at h <;> simp only [Option.some.injEq, Prod.mk.injEq, reduceCtorEq] at h
  rename_i l m
  obtain ⟨rfl, rfl⟩ := h
  have h1 := hob (isDg l) (by simp)
  have h2 := hob (isDg m) (by simp)
  have h3 := of_decide_eq_true (hob (decide (valI l < b32 ^ 16)) (by simp))
  have := long_ok (valI l) (valI m) h3 (valI_lt h2)
  rw [← isDg_eq h1, ← isDg_eq h2] at this
  exact this)
end Go.Proofs.Ytakmgioeldbkcaa

/- Contracts: mul.Div, mul.Rest. -/
namespace Go.Proofs.Ytakmgioeldbkcaa
open Go Go.RowKit

theorem b32_pow (i : Nat) : b32 ^ (2 * i) = 2 ^ (64 * i) := by rw [show b32 = 2 ^ 32 from rfl, ← Nat.pow_mul]; congr 1; omega
theorem limb_digs (a : BitVec 256) (i : Nat) : limb a i = ((dgt a.toNat (2 * i) + dgt a.toNat (2 * i + 1) * 4294967296 : Nat) : Int) := by
  unfold limb dgt
  rw [Nat.pow_succ b32 (2 * i), ← Nat.div_div_eq_div_mul, b32_pow]
  congr 1
  rw [show b32 = 4294967296 from rfl]
  omega
theorem dig2_eq (a : BitVec 256) (i : Nat) : dig2 a i = [((dgt a.toNat (2 * i) : Nat) : Int), ((dgt a.toNat (2 * i + 1) : Nat) : Int)] := by
  have h1 : dgt a.toNat (2 * i) < 4294967296 := dgt_lt _ _
  have h2 : dgt a.toNat (2 * i + 1) < 4294967296 := dgt_lt _ _
  unfold dig2
  rw [limb_digs, iand_low _ (by omega), ishr_32]
  rw [show (dgt a.toNat (2 * i) + dgt a.toNat (2 * i + 1) * 4294967296) % 4294967296 = dgt a.toNat (2 * i) by omega, show (dgt a.toNat (2 * i) + dgt a.toNat (2 * i + 1) * 4294967296) / 4294967296 = dgt a.toNat (2 * i + 1) by omega]
theorem dg_list8 (x : Nat) : dg 8 x = [((dgt x 0 : Nat) : Int), ((dgt x 1 : Nat) : Int), ((dgt x 2 : Nat) : Int), ((dgt x 3 : Nat) : Int), ((dgt x 4 : Nat) : Int), ((dgt x 5 : Nat) : Int), ((dgt x 6 : Nat) : Int), ((dgt x 7 : Nat) : Int)] := rfl
theorem digs_eq (a : BitVec 256) : digs a = dg 8 a.toNat := by
  unfold digs
  rw [dig2_eq, dig2_eq, dig2_eq, dig2_eq, dg_list8]
  rfl
theorem dg_append (m n x : Nat) : dg (m + n) x = dg m x ++ dg n (x / b32 ^ m) := by
  apply List.ext_getElem
  · simp [dg]
  · intro i h1 h2
    have hi : i < m + n := by simpa [dg] using h1
    rw [List.getElem_append]
    split
    · simp [dg]
    · rename_i hm
      simp only [dg, List.length_map, List.length_range, List.getElem_map, List.getElem_range] at hm ⊢
      rw [dgt_div, show m + (i - m) = i by omega]
theorem pow8 : b32 ^ 8 = 2 ^ 256 := by decide
theorem split_one (a : BitVec 256) : digs a ++ List.replicate 9 0 = dg 17 a.toNat := by
  rw [digs_eq, show (17 : Nat) = 8 + 9 from rfl, dg_append, pow8, Nat.div_eq_of_lt a.isLt]; rfl
theorem split_two (a b : BitVec 256) : digs a ++ digs b ++ [0] = dg 17 (a.toNat + 2 ^ 256 * b.toNat) := by
  have h1 : (a.toNat + 2 ^ 256 * b.toNat) / b32 ^ 8 = b.toNat := by rw [pow8, Nat.add_mul_div_left _ _ (by decide), Nat.div_eq_of_lt a.isLt, Nat.zero_add]
  have h2 : (a.toNat + 2 ^ 256 * b.toNat) % b32 ^ 8 = a.toNat := by rw [pow8, Nat.add_mul_mod_self_left, Nat.mod_eq_of_lt a.isLt]
  rw [digs_eq, digs_eq, show (17 : Nat) = 8 + (8 + 1) from rfl, dg_append 8 (8 + 1), h1, dg_append 8 1, pow8, Nat.div_eq_of_lt b.isLt, ← dg_mod 8 (a.toNat + 2 ^ 256 * b.toNat), h2, List.append_assoc]
  rfl
theorem join_eq (x : Nat) : joinL (dg 17 x) = [limb (BitVec.ofNat 256 x) 0, limb (BitVec.ofNat 256 x) 1, limb (BitVec.ofNat 256 x) 2, limb (BitVec.ofNat 256 x) 3] := by
  have key : ∀ k, k < 4 → ior .u64 ((dg 17 x).getD (2 * k) 0) (ishl .u64 ((dg 17 x).getD (2 * k + 1) 0) 32) = limb (BitVec.ofNat 256 x) k := by
    intro k hk
    have h1 : dgt x (2 * k) < 2 ^ 32 := dgt_lt _ _
    have h2 : dgt x (2 * k + 1) < 4294967296 := dgt_lt _ _
    have hl : dgt x (2 * k + 1) * 2 ^ 32 ≤ 4294967295 * 4294967296 := Nat.mul_le_mul (by omega) (by decide)
    rw [dg_getD (by omega), dg_getD (by omega), show (32 : Int) = ((32 : Nat) : Int) from rfl, ishl_fit (by omega) (by omega), ior_nat (by omega) (by omega), or_shift' h1, limb_digs]
    have e : ∀ j, j < 8 → dgt (BitVec.ofNat 256 x).toNat j = dgt x j := by
      intro j hj
      rw [BitVec.toNat_ofNat, ← pow8]
      have h3 := congrArg (fun l => List.getD l j 0) (dg_mod 8 x)
      simp only [dg_getD hj] at h3
      exact Int.ofNat_inj.1 h3
    rw [e _ (by omega), e _ (by omega)]
  have := key 0 (by omega)
  have := key 1 (by omega)
  have := key 2 (by omega)
  have := key 3 (by omega)
  unfold joinL
  simp only [List.range_succ, List.range_zero, List.nil_append, List.cons_append, List.map_cons, List.map_nil]
  simp_all
def splitG2 : AV → Path → Nat → Nat → List AV → Option (List Bool × AV)
  | .agg [.u a], [(0, 0, 4)], 1, 1, [] => some ([], .ints .u64 17 (dg 17 a.toNat))
  | .agg [.u a, .u b], [(0, 0, 4)], 2, 2, [] => some ([], .ints .u64 17 (dg 17 (a.toNat + 2 ^ 256 * b.toNat)))
  | _, _, _, _, _ => none
noncomputable def c_split2 : Ctr Try.prog := Ctr.ofS 102 24 splitG2 (by
  intro x p n c args ob v h _
  unfold splitG2 at h
  split at h <;> try contradiction
  · simp at h; obtain ⟨_, rfl⟩ := h
    exact PureS.by_run mixed XSp 200 _ _ _ _ _ _ _ (split1_run _) (by simp) (SameV.ints (split_one _)).r
  · simp at h; obtain ⟨_, rfl⟩ := h
    exact PureS.by_run mixed XSp 200 _ _ _ _ _ _ _ (split2_run _ _) (by simp) (SameV.ints (split_two _ _)).r)
theorem join_ok (x : Nat) : Pure Try.prog 104 [.ints .u64 17 (dg 17 x), .int .i64 0] (.u (BitVec.ofNat 256 x)) := Pure.by_run mixed XJo 200 _ _ (join_run (dg 17 x)) (by simp) (SameV.u4 (join_eq x)).r
noncomputable def c_join : Ctr Try.prog := Ctr.of 104 (fun | [.ints .u64 17 l, .int .i64 k] => some ([isDg l, decide (k = 0)], .u (BitVec.ofNat 256 (valI l))) | _ => none) (by
  intro args ob v h hob
  split at h <;> simp only [Option.some.injEq, Prod.mk.injEq, reduceCtorEq] at h
  rename_i l k
  obtain ⟨rfl, rfl⟩ := h
  have h1 := hob (isDg l) (by simp)
  have h2 := of_decide_eq_true (hob (decide (k = 0)) (by simp))
  subst h2
  have := join_ok (valI l)
  rw [← isDg_eq h1] at this
  exact this)
noncomputable def divX : EnvT Try.prog := { cs := [c_num_Cmp, c_split2, c_long, c_join], fis := [fi_mul_Div, fi_mul_Rest] }

theorem div_tree (a b : BitVec 256) : (callT (divX) (execT (divX) 100) 54 [.u a, .u b] [] [] 0 []).map CR.v =
    (.ite (decide ((ucmp a b) < (0 : Int)))
     (.leaf (.tup [(.ints .u64 4 [(0 : Int), (0 : Int), (0 : Int), (0 : Int)]), (.u a)]))
     (.need (isDg (dg 17 (BitVec.toNat a)))
     (.need (isDg (dg 17 (BitVec.toNat b)))
     (.need (decide ((valI (dg 17 (BitVec.toNat a))) < 13407807929942597099574024998205846127479365820592393377723561443721764030073546976801874298166903427690031858186486050853753882811946569946433649006084096))
     (.need (isDg (dg 17 ((valI (dg 17 (BitVec.toNat a))) / (valI (dg 17 (BitVec.toNat b))))))
     (.need true
     (.need (isDg (dg 17 (remD (valI (dg 17 (BitVec.toNat a))) (valI (dg 17 (BitVec.toNat b))))))
     (.need true
     (.leaf (.tup [(.u (BitVec.ofNat 256 (valI (dg 17 ((valI (dg 17 (BitVec.toNat a))) / (valI (dg 17 (BitVec.toNat b)))))))), (.u (BitVec.ofNat 256 (valI (dg 17 (remD (valI (dg 17 (BitVec.toNat a))) (valI (dg 17 (BitVec.toNat b))))))))])))))))))) := by kernel_rfl

theorem rest_tree (h l m : BitVec 256) : (callT (divX) (execT (divX) 100) 56 [.u h, .u l, .u m] [] [] 0 []).map CR.v =
    (.need (isDg (dg 17 ((BitVec.toNat l) + (115792089237316195423570985008687907853269984665640564039457584007913129639936 * (BitVec.toNat h)))))
    (.need (isDg (dg 17 (BitVec.toNat m)))
    (.need (decide ((valI (dg 17 ((BitVec.toNat l) + (115792089237316195423570985008687907853269984665640564039457584007913129639936 * (BitVec.toNat h))))) < 13407807929942597099574024998205846127479365820592393377723561443721764030073546976801874298166903427690031858186486050853753882811946569946433649006084096))
    (.need (isDg (dg 17 (remD (valI (dg 17 ((BitVec.toNat l) + (115792089237316195423570985008687907853269984665640564039457584007913129639936 * (BitVec.toNat h))))) (valI (dg 17 (BitVec.toNat m))))))
    (.need true
    (.leaf (.u (BitVec.ofNat 256 (valI (dg 17 (remD (valI (dg 17 ((BitVec.toNat l) + (115792089237316195423570985008687907853269984665640564039457584007913129639936 * (BitVec.toNat h))))) (valI (dg 17 (BitVec.toNat m)))))))))))))) := by kernel_rfl

/-- What is left; 0, if it is by 0. -/
def remU (a b : BitVec 256) : BitVec 256 := BitVec.ofNat 256 (remD a.toNat b.toNat)
def restU (h l m : BitVec 256) : BitVec 256 := BitVec.ofNat 256 (remD (l.toNat + 2 ^ 256 * h.toNat) m.toNat)
theorem remD_le (x y : Nat) : remD x y ≤ x := by unfold remD; split; exact Nat.zero_le _; exact Nat.mod_le _ _
theorem u_lt17 (a : BitVec 256) : a.toNat < b32 ^ 17 := Nat.lt_of_lt_of_le a.isLt (by rw [← pow8]; exact pow_le32 (by omega))
theorem u_lt16 (a : BitVec 256) : a.toNat < b32 ^ 16 := Nat.lt_of_lt_of_le a.isLt (by rw [← pow8]; exact pow_le32 (by omega))
theorem ucmp_neg {a b : BitVec 256} : (decide (ucmp a b < (0 : Int))) = decide (a.toNat < b.toNat) := by
  unfold ucmp
  by_cases h : a = b
  · subst h; simp
  · rw [if_neg h]
    have : uless a b = decide (a.toNat < b.toNat) := by unfold uless; rfl
    rw [this]
    by_cases h2 : a.toNat < b.toNat <;> simp [h2]
theorem num_Div_ok (a b : BitVec 256) : Pure Try.prog 54 [.u a, .u b] (.tup [.u (a / b), .u (remU a b)]) := by
  refine Pure.by_tree mixed _ 100 _ _ (div_tree a b) ?_
  rw [ucmp_neg, valI_dg17 (u_lt17 a), valI_dg17 (u_lt17 b), valI_dg17 (Nat.lt_of_le_of_lt (Nat.div_le_self _ _) (u_lt17 a)), valI_dg17 (Nat.lt_of_le_of_lt (remD_le _ _) (u_lt17 a))]
  refine ⟨fun h => ?_, fun _ => ⟨isDg_dg _, isDg_dg _, ?_, isDg_dg _, rfl, isDg_dg _, rfl, SameR.tup2 (SameV.u ?_) (SameV.u rfl)⟩⟩
  · have h := of_decide_eq_true h
    refine SameR.tup2 (SameV.u4 ?_) (SameV.u ?_)
    · have : a / b = 0#256 := by
        apply BitVec.eq_of_toNat_eq
        rw [BitVec.toNat_udiv, Nat.div_eq_of_lt h]; rfl
      rw [this]; exact zero_limbs
    · unfold remU remD
      rw [if_neg (by omega), Nat.mod_eq_of_lt h, BitVec.ofNat_toNat, BitVec.setWidth_eq]
  · have := u_lt16 a
    exact decide_eq_true this
  · apply BitVec.eq_of_toNat_eq
    rw [BitVec.toNat_udiv, BitVec.toNat_ofNat, Nat.mod_eq_of_lt (Nat.lt_of_le_of_lt (Nat.div_le_self _ _) a.isLt)]
theorem two_lt (l h : BitVec 256) : l.toNat + 2 ^ 256 * h.toNat < b32 ^ 16 := by
  have h1 := l.isLt
  have h2 := h.isLt
  have : 2 ^ 256 * (h.toNat + 1) ≤ 2 ^ 256 * 2 ^ 256 := Nat.mul_le_mul_left _ h2
  rw [show b32 ^ 16 = 2 ^ 256 * 2 ^ 256 by decide]
  rw [Nat.mul_add] at this
  omega
theorem num_Rest_ok (h l m : BitVec 256) : Pure Try.prog 56 [.u h, .u l, .u m] (.u (restU h l m)) := by
  have h16 := two_lt l h
  have h17 := Nat.lt_of_lt_of_le h16 (pow_le32 (show 16 ≤ 17 by omega))
  refine Pure.by_tree mixed _ 100 _ _ (rest_tree h l m) ?_
  rw [show (115792089237316195423570985008687907853269984665640564039457584007913129639936 : Nat) = 2 ^ 256 from rfl, valI_dg17 h17, valI_dg17 (u_lt17 m), valI_dg17 (Nat.lt_of_le_of_lt (remD_le _ _) h17)]
  exact ⟨isDg_dg _, isDg_dg _, decide_eq_true h16, isDg_dg _, rfl, (SameV.u rfl).r⟩
noncomputable def c_num_Div : Ctr Try.prog := Ctr.u2 54 (fun a b => .tup [.u (a / b), .u (remU a b)]) num_Div_ok
noncomputable def c_num_Rest : Ctr Try.prog := Ctr.u3 56 (fun h l m => .u (restU h l m)) num_Rest_ok
end Go.Proofs.Ytakmgioeldbkcaa

/- Contracts: chapter 2's examples; the laws without the document's division. -/
namespace Go.Proofs.Ytakmgioeldbkcaa
open Go Go.RowKit
noncomputable def lawX2 : EnvT Try.prog := { cs := [c_num_Wide, c_num_Mul, c_num_Div, c_num_Rest, c_ref_Wide, c_ref_Mul, c_ref_Add, c_ref_Cmp, c_num_Of, c_ref_Of], fis := [fi_trucelaw02_awake, fi_trucelaw02_MulWides, fi_trucelaw02_MulBack, fi_trucelaw02_MulRests, fi_trucelaw02_MulSpreads] }

theorem awake02_tree  : (callT (lawX2) (execT (lawX2) 100) 58 [] [] [] 0 []).map CR.v =
    (.need true
    (.need true
    (.need true
    (.need true
    (.need true
    (.need true
    (.need true
    (.ite true
     (.need true
     (.ite true
      (.need true
      (.ite true
       (.need true
       (.ite true
        (.need true
        (.ite true
         (.need true
         (.ite true
          (.need true
          (.need true
          (.need true
          (.need true
          (.leaf (.bool true))))))
          (.leaf (.bool false))))
         (.leaf (.bool false))))
        (.leaf (.bool false))))
       (.leaf (.bool false))))
      (.leaf (.bool false))))
     (.leaf (.bool false)))))))))) := by kernel_rfl

theorem awake02_ok : Pure Try.prog 58 [] (.bool true) := Pure.by_tree mixed _ 100 _ _ awake02_tree (by
  simp only [T.holds, true_and, forall_const, reduceCtorEq, false_implies, and_true, implies_true]
  exact (SameV.bool rfl).r)
noncomputable def c_awake02 : Ctr Try.prog := Ctr.z0 58 (.bool true) awake02_ok
noncomputable def lawX2b : EnvT Try.prog := { lawX2 with cs := c_awake02 :: lawX2.cs }
end Go.Proofs.Ytakmgioeldbkcaa

