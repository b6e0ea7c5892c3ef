/- Numbers of bytes, the highest first. -/
import Derived.Test.YtakmgioeldbkcaaL2
namespace Go.Proofs.Ytakmgioeldbkcaa
open Go Go.RowKit

def beN (l : List UInt8) : Nat := l.foldl (fun n b => n * 256 + b.toNat) 0
theorem beN_fold (l : List UInt8) : ∀ acc : Nat, l.foldl (fun n b => n * 256 + b.toNat) acc = acc * 256 ^ l.length + beN l := by
  induction l with
  | nil => intro acc; simp [beN]
  | cons b l ih =>
    intro acc
    have h1 := ih (acc * 256 + b.toNat)
    have h2 := ih (0 * 256 + b.toNat)
    unfold beN at h2 ⊢
    simp only [List.foldl_cons, List.length_cons]
    rw [h1, h2]
    unfold beN
    rw [Nat.pow_succ, Nat.add_mul, Nat.zero_mul, Nat.zero_add, ← Nat.add_assoc, Nat.mul_assoc acc 256, Nat.mul_comm 256]
theorem beN_cons (b : UInt8) (l : List UInt8) : beN (b :: l) = b.toNat * 256 ^ l.length + beN l := by
  have := beN_fold l (0 * 256 + b.toNat)
  rw [Nat.zero_mul, Nat.zero_add] at this
  unfold beN
  simp only [List.foldl_cons]
  rw [Nat.zero_mul, Nat.zero_add, this]
  rfl
theorem beN_lt : ∀ l : List UInt8, beN l < 256 ^ l.length
  | [] => by simp [beN]
  | b :: l => by
    have h1 := beN_lt l
    have h2 : b.toNat < 256 := b.toNat_lt
    rw [beN_cons, List.length_cons, Nat.pow_succ]
    have h3 : (b.toNat + 1) * 256 ^ l.length ≤ 256 * 256 ^ l.length := Nat.mul_le_mul_right _ (by omega)
    rw [Nat.add_mul, Nat.one_mul] at h3
    rw [Nat.mul_comm (256 ^ l.length)]
    omega
theorem beN_take (l : List UInt8) {i : Nat} (h : i < l.length) : beN (l.take (i + 1)) = beN (l.take i) * 256 + (l.getD i 0).toNat := by
  have h1 : l.take (i + 1) = l.take i ++ [l.getD i 0] := by
    rw [List.take_add_one, List.getD, List.getElem?_eq_getElem h]; rfl
  rw [h1]
  unfold beN
  rw [List.foldl_append]
  rfl
theorem beN_drop (l : List UInt8) {i : Nat} (h : i < l.length) : beN (l.drop (l.length - (i + 1))) = (l.getD (l.length - 1 - i) 0).toNat * 256 ^ i + beN (l.drop (l.length - i)) := by
  have h1 : l.drop (l.length - (i + 1)) = l.getD (l.length - 1 - i) 0 :: l.drop (l.length - i) := by
    have h2 : l.length - (i + 1) < l.length := by omega
    rw [List.drop_eq_getElem_cons h2, List.getD, List.getElem?_eq_getElem (by omega)]
    have e1 : l.length - 1 - i + 1 = l.length - i := by omega
    have e2 : l.length - (i + 1) = l.length - 1 - i := by omega
    simp only [e2, e1]
    rfl
  rw [h1, beN_cons, List.length_drop]
  have : l.length - (l.length - i) = i := by omega
  rw [this]

/-- A byte behind a number. -/
theorem shl8_or (n b : Nat) (hb : b < 256) : (BitVec.ofNat 256 n <<< 8) ||| BitVec.ofNat 256 b = BitVec.ofNat 256 (n * 256 + b) := by
  have h1 : BitVec.ofNat 256 n <<< 8 = BitVec.ofNat 256 (n * 256) := by
    apply BitVec.eq_of_toNat_eq
    rw [BitVec.toNat_shiftLeft, BitVec.toNat_ofNat, BitVec.toNat_ofNat, Nat.shiftLeft_eq]
    omega
  have h2 : n * 256 ||| b = n * 256 + b := by
    have := Nat.shiftLeft_add_eq_or_of_lt (i := 8) (b := b) (by omega) n
    rw [Nat.shiftLeft_eq] at this
    exact this.symm
  rw [h1, ← h2]
  apply BitVec.eq_of_getLsbD_eq
  intro i hi
  simp only [BitVec.getLsbD_or, BitVec.getLsbD_ofNat, Nat.testBit_or]
  cases decide (i < 256) <;> simp
theorem byte_or (m b i : Nat) (hm : m < 256 ^ i) : BitVec.ofNat 256 m ||| (BitVec.ofNat 256 b <<< (8 * i)) = BitVec.ofNat 256 (b * 256 ^ i + m) := by
  have hp : 256 ^ i = 2 ^ (8 * i) := by rw [Nat.pow_mul]
  have h1 : BitVec.ofNat 256 b <<< (8 * i) = BitVec.ofNat 256 (b * 256 ^ i) := by
    apply BitVec.eq_of_toNat_eq
    rw [BitVec.toNat_shiftLeft, BitVec.toNat_ofNat, BitVec.toNat_ofNat, Nat.shiftLeft_eq, hp, Nat.mod_mul_mod]
  have h2 : b * 256 ^ i ||| m = b * 256 ^ i + m := by
    have := Nat.shiftLeft_add_eq_or_of_lt (i := 8 * i) (b := m) (by rw [← hp]; exact hm) b
    rw [Nat.shiftLeft_eq, ← hp] at this
    exact this.symm
  rw [h1, ← h2]
  apply BitVec.eq_of_getLsbD_eq
  intro j hj
  simp only [BitVec.getLsbD_or, BitVec.getLsbD_ofNat, Nat.testBit_or]
  cases decide (j < 256) <;> simp [Bool.or_comm]

theorem limb_small (b : Nat) (hb : b < 18446744073709551616) : limb (BitVec.ofNat 256 b) 0 = b ∧ limb (BitVec.ofNat 256 b) 1 = 0 ∧ limb (BitVec.ofNat 256 b) 2 = 0 ∧ limb (BitVec.ofNat 256 b) 3 = 0 := by
  have hx : (BitVec.ofNat 256 b).toNat = b + 18446744073709551616 * (0 + 18446744073709551616 * (0 + 18446744073709551616 * 0)) := by
    rw [BitVec.toNat_ofNat]; omega
  obtain ⟨h0, h1, h2, h3⟩ := limb_of hb (by omega) (by omega) (by omega) hx
  exact ⟨h0, h1, h2, h3⟩
theorem ior_zero (x : BitVec 256) (i : Nat) : ior .u64 (limb x i) 0 = limb x i := by
  have h0 : limb (0#256) i = 0 := by simp [limb]
  have := ior_limb x (0#256) i
  rw [h0] at this
  rw [this]
  simp

theorem part_byte {b i p : Nat} (hb : b < 256) (hp : p < 4) : part (BitVec.ofNat 256 b <<< (8 * i)) p = if p = i / 8 then BitVec.ofNat 64 b <<< (8 * (i % 8)) else 0#64 := by
  have hbit : ∀ m, 8 ≤ m → b.testBit m = false := fun m hm => Nat.testBit_lt_two_pow (Nat.lt_of_lt_of_le hb (by rw [show 256 = 2 ^ 8 from rfl]; exact Nat.pow_le_pow_right (by omega) hm))
  split
  · rename_i h
    subst h
    unfold part
    ext j hj
    simp only [BitVec.getElem_extractLsb', BitVec.getLsbD_shiftLeft, BitVec.getLsbD_ofNat, BitVec.getElem_shiftLeft]
    have h1 : 64 * (i / 8) + j < 256 := by omega
    by_cases h2 : j < 8 * (i % 8)
    · have h3 : 64 * (i / 8) + j < 8 * i := by omega
      simp [h2, h3]
    · have h3 : ¬ 64 * (i / 8) + j < 8 * i := by omega
      have h4 : 64 * (i / 8) + j - 8 * i = j - 8 * (i % 8) := by omega
      have h5 : j - 8 * (i % 8) < 256 := by omega
      simp only [h1, h2, h3, h4, h5]
      have h6 : j - 8 * (i % 8) < 64 := by omega
      rw [← BitVec.getLsbD_eq_getElem, BitVec.getLsbD_ofNat]
      simp [h6]
  · rename_i h
    unfold part
    ext j hj
    simp only [BitVec.getElem_extractLsb', BitVec.getLsbD_shiftLeft, BitVec.getLsbD_ofNat, BitVec.getElem_zero]
    by_cases h3 : 64 * p + j < 8 * i
    · simp [h3]
    · rw [hbit (64 * p + j - 8 * i) (by omega)]
      simp

/-- The byte's step of 'num.Read'. -/
theorem num_read_step (n b : Nat) (hb : b < 256) : [ior .u64 (limb (BitVec.ofNat 256 n <<< 8) 0) (b : Int), limb (BitVec.ofNat 256 n <<< 8) 1, limb (BitVec.ofNat 256 n <<< 8) 2, limb (BitVec.ofNat 256 n <<< 8) 3] =
    [limb (BitVec.ofNat 256 (n * 256 + b)) 0, limb (BitVec.ofNat 256 (n * 256 + b)) 1, limb (BitVec.ofNat 256 (n * 256 + b)) 2, limb (BitVec.ofNat 256 (n * 256 + b)) 3] := by
  obtain ⟨e0, e1, e2, e3⟩ := limb_small b (by omega)
  rw [← shl8_or n b hb, ← ior_limb, ← ior_limb, ← ior_limb, ← ior_limb, e0, e1, e2, e3, ior_zero, ior_zero, ior_zero]

/-- Of all its bytes a number is read again. -/
theorem beN_digits (a : Nat) (l : List UInt8) (n : Nat) (hl : l.length = n) (h : ∀ j, j < n → (l.getD j 0).toNat = a / 256 ^ (n - 1 - j) % 256) (ha : a < 256 ^ n) : beN l = a := by
  have key : ∀ j, j ≤ n → beN (l.take j) = a / 256 ^ (n - j) := by
    intro j
    induction j with
    | zero =>
      intro _
      rw [Nat.sub_zero, Nat.div_eq_of_lt ha]
      rfl
    | succ j ih =>
      intro hj
      rw [beN_take l (by omega), ih (by omega), h j (by omega)]
      have e1 : n - j = (n - (j + 1)) + 1 := by omega
      have e2 : n - 1 - j = n - (j + 1) := by omega
      rw [e1, e2, Nat.pow_succ, ← Nat.div_div_eq_div_mul]
      omega
  have := key n (Nat.le_refl n)
  rw [Nat.sub_self, Nat.pow_zero, Nat.div_one, List.take_of_length_le (by omega)] at this
  exact this
end Go.Proofs.Ytakmgioeldbkcaa
