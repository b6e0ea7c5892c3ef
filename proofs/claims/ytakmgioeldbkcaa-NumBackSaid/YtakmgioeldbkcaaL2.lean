/- Numbers of 256 bits, shifted: by their parts. -/
import Derived.Test.YtakmgioeldbkcaaG2
namespace Go.Proofs.Ytakmgioeldbkcaa
open Go Go.RowKit

def part (a : BitVec 256) (i : Nat) : BitVec 64 := a.extractLsb' (64 * i) 64
theorem limb_part (a : BitVec 256) (i : Nat) : limb a i = ((part a i).toNat : Int) := limb_extract a i
theorem wrap_nat (n : Nat) : IntKind.u64.wrap (n : Int) = ((n % 18446744073709551616 : Nat) : Int) := by
  simp [IntKind.wrap, IntKind.signed, IntKind.bits]
theorem ishl_bv (x : BitVec 64) (k : Nat) (hk : k ≤ 64) : ishl .u64 (x.toNat : Int) (k : Int) = ((x <<< k).toNat : Int) := by
  unfold ishl
  have h1 : min ((k : Int).toNat) IntKind.u64.bits = k := by simp [IntKind.bits]; omega
  rw [h1, BitVec.toNat_shiftLeft, Nat.shiftLeft_eq]
  have : (x.toNat : Int) * 2 ^ k = ((x.toNat * 2 ^ k : Nat) : Int) := by simp
  rw [this, wrap_nat]
theorem ishr_bv (x : BitVec 64) (k : Nat) (hk : k ≤ 64) : ishr .u64 (x.toNat : Int) (k : Int) = ((x >>> k).toNat : Int) := by
  unfold ishr
  have h1 : min ((k : Int).toNat) IntKind.u64.bits = k := by simp [IntKind.bits]; omega
  rw [h1, BitVec.toNat_ushiftRight, Nat.shiftRight_eq_div_pow]
  have : (2 : Int) ^ k = ((2 ^ k : Nat) : Int) := by simp
  rw [this, Int.fdiv_eq_ediv_of_nonneg _ (Int.natCast_nonneg _)]
  rfl
theorem ior_bv (x y : BitVec 64) : ior .u64 (x.toNat : Int) (y.toNat : Int) = ((x ||| y).toNat : Int) := by
  unfold ior
  show IntKind.u64.wrap ((BitVec.ofInt 64 (x.toNat : Int) ||| BitVec.ofInt 64 (y.toNat : Int)).toNat : Int) = _
  rw [wrap_u64_nat _ (BitVec.isLt _), BitVec.ofInt_natCast, BitVec.ofInt_natCast, BitVec.ofNat_toNat, BitVec.ofNat_toNat, BitVec.setWidth_eq, BitVec.setWidth_eq]
theorem wrap_63 {k : Nat} (hk : k < 64) : IntKind.u64.wrap (63 - (k : Int)) = ((63 - k : Nat) : Int) := by
  have : (63 - (k : Int)) = ((63 - k : Nat) : Int) := by omega
  rw [this, wrap_nat]
  omega

theorem part_shl_lo (a : BitVec 256) {q k i : Nat} (h : i < q) : part (a <<< (64 * q + k)) i = 0#64 := by
  unfold part
  ext j hj
  simp only [BitVec.getElem_extractLsb', BitVec.getLsbD_shiftLeft, BitVec.getElem_zero]
  have : 64 * i + j < 64 * q + k := by omega
  simp [this]
theorem part_shl_at (a : BitVec 256) {q k : Nat} (hq : q < 4) : part (a <<< (64 * q + k)) q = part a 0 <<< k := by
  unfold part
  ext j hj
  simp only [BitVec.getElem_extractLsb', BitVec.getLsbD_shiftLeft, BitVec.getElem_shiftLeft]
  have h1 : 64 * q + j < 256 := by omega
  by_cases hjk : j < k
  · have : 64 * q + j < 64 * q + k := by omega
    simp [this, hjk]
  · have h2 : ¬ 64 * q + j < 64 * q + k := by omega
    have h3 : 64 * q + j - (64 * q + k) = 64 * 0 + (j - k) := by omega
    have h4 : j - k < 64 := by omega
    simp only [h1, h2, hjk, h3]
    simp
theorem part_shl_hi (a : BitVec 256) {q k i : Nat} (hi : q < i) (hi4 : i < 4) (hk : k < 64) : part (a <<< (64 * q + k)) i = (part a (i - q) <<< k) ||| ((part a (i - q - 1) >>> 1) >>> (63 - k)) := by
  unfold part
  ext j hj
  simp only [BitVec.getElem_extractLsb', BitVec.getLsbD_shiftLeft, BitVec.getElem_shiftLeft, BitVec.getElem_or, BitVec.getElem_ushiftRight, BitVec.getLsbD_ushiftRight, BitVec.getLsbD_extractLsb']
  have h1 : 64 * i + j < 256 := by omega
  have h2 : ¬ 64 * i + j < 64 * q + k := by omega
  by_cases hjk : j < k
  · have h3 : 64 * i + j - (64 * q + k) = 64 * (i - q - 1) + (1 + (63 - k + j)) := by omega
    have h4 : 1 + (63 - k + j) < 64 := by omega
    simp [h1, h2, hjk, h3, h4]
  · have h3 : 64 * i + j - (64 * q + k) = 64 * (i - q) + (j - k) := by omega
    have h4 : ¬ 1 + (63 - k + j) < 64 := by omega
    simp [h1, h2, hjk, h3, h4]
theorem part_shr_lo (a : BitVec 256) {q k i : Nat} (_hi : i + q + 1 < 4) (hk : k < 64) : part (a >>> (64 * q + k)) i = (part a (i + q) >>> k) ||| ((part a (i + q + 1) <<< 1) <<< (63 - k)) := by
  unfold part
  ext j hj
  simp only [BitVec.getElem_extractLsb', BitVec.getLsbD_ushiftRight, BitVec.getElem_shiftLeft, BitVec.getElem_or, BitVec.getElem_ushiftRight, BitVec.getLsbD_extractLsb']
  by_cases hjk : k + j < 64
  · have h3 : 64 * q + k + (64 * i + j) = 64 * (i + q) + (k + j) := by omega
    have h4 : j < 63 - k ∨ j - (63 - k) < 1 := by omega
    rcases h4 with h4 | h4
    · simp [hjk, h3, h4]
    · by_cases h5 : j < 63 - k
      · simp [hjk, h3, h5]
      · simp [hjk, h3, h4]
  · have h3 : 64 * q + k + (64 * i + j) = 64 * (i + q + 1) + (j - (63 - k) - 1) := by omega
    have h4 : ¬ j < 63 - k := by omega
    have h5 : ¬ j - (63 - k) < 1 := by omega
    simp [hjk, h3, h4, h5]
theorem part_shr_at (a : BitVec 256) {q k i : Nat} (hi : i + q = 3) : part (a >>> (64 * q + k)) i = part a 3 >>> k := by
  unfold part
  ext j hj
  simp only [BitVec.getElem_extractLsb', BitVec.getLsbD_ushiftRight, BitVec.getElem_ushiftRight, BitVec.getLsbD_extractLsb']
  have h3 : 64 * q + k + (64 * i + j) = 64 * 3 + (k + j) := by omega
  by_cases hjk : k + j < 64
  · simp [h3, hjk]
  · have : a.getLsbD (64 * 3 + (k + j)) = false := BitVec.getLsbD_of_ge _ _ (by omega)
    simp only [h3, hjk, this]
    simp
theorem part_shr_hi (a : BitVec 256) {q k i : Nat} (hi : 4 ≤ i + q) : part (a >>> (64 * q + k)) i = 0#64 := by
  unfold part
  ext j hj
  simp only [BitVec.getElem_extractLsb', BitVec.getLsbD_ushiftRight, BitVec.getElem_zero]
  exact BitVec.getLsbD_of_ge _ _ (by omega)

/-- The parts of a number shifted up. -/
def shlL (a : BitVec 256) (q : Nat) (k : Int) : List Int :=
  (List.range 4).map fun i => if i < q then 0 else if i = q then ishl .u64 (limb a 0) k else ior .u64 (ishl .u64 (limb a (i - q)) k) (ishr .u64 (ishr .u64 (limb a (i - q - 1)) 1) (IntKind.u64.wrap (63 - k)))
def shrL (a : BitVec 256) (q : Nat) (k : Int) : List Int :=
  (List.range 4).map fun i => if i + q + 1 < 4 then ior .u64 (ishr .u64 (limb a (i + q)) k) (ishl .u64 (ishl .u64 (limb a (i + q + 1)) 1) (IntKind.u64.wrap (63 - k))) else if i + q = 3 then ishr .u64 (limb a 3) k else 0

theorem ishl_1 (x : BitVec 64) : ishl .u64 (x.toNat : Int) 1 = ((x <<< 1).toNat : Int) := ishl_bv x 1 (by omega)
theorem ishr_1 (x : BitVec 64) : ishr .u64 (x.toNat : Int) 1 = ((x >>> 1).toNat : Int) := ishr_bv x 1 (by omega)
theorem shlL_one (a : BitVec 256) {q k i : Nat} (hq : q < 4) (hk : k < 64) (hi : i < 4) : (if i < q then 0 else if i = q then ishl .u64 (limb a 0) (k : Int) else ior .u64 (ishl .u64 (limb a (i - q)) k) (ishr .u64 (ishr .u64 (limb a (i - q - 1)) 1) (IntKind.u64.wrap (63 - (k : Int))))) =
    limb (a <<< (64 * q + k)) i := by
  simp only [limb_part]
  by_cases h1 : i < q
  · rw [if_pos h1, part_shl_lo a h1]; rfl
  · rw [if_neg h1]
    by_cases h2 : i = q
    · subst h2
      rw [if_pos rfl, part_shl_at a hi, ishl_bv _ _ (by omega)]
    · rw [if_neg h2, part_shl_hi a (by omega) hi hk, ishl_bv _ _ (by omega), ishr_1, wrap_63 hk, ishr_bv _ _ (by omega), ior_bv]
theorem shrL_one (a : BitVec 256) {q k i : Nat} (hk : k < 64) :
    (if i + q + 1 < 4 then ior .u64 (ishr .u64 (limb a (i + q)) (k : Int)) (ishl .u64 (ishl .u64 (limb a (i + q + 1)) 1) (IntKind.u64.wrap (63 - (k : Int)))) else if i + q = 3 then ishr .u64 (limb a 3) k else 0) = limb (a >>> (64 * q + k)) i := by
  simp only [limb_part]
  by_cases h1 : i + q + 1 < 4
  · rw [if_pos h1, part_shr_lo a h1 hk, ishr_bv _ _ (by omega), ishl_1, wrap_63 hk, ishl_bv _ _ (by omega), ior_bv]
  · rw [if_neg h1]
    by_cases h2 : i + q = 3
    · rw [if_pos h2, part_shr_at a h2, ishr_bv _ _ (by omega)]
    · rw [if_neg h2, part_shr_hi a (by omega)]; rfl
theorem shlL_eq (a : BitVec 256) {q k : Nat} (hq : q < 4) (hk : k < 64) : shlL a q k = [limb (a <<< (64 * q + k)) 0, limb (a <<< (64 * q + k)) 1, limb (a <<< (64 * q + k)) 2, limb (a <<< (64 * q + k)) 3] := by
  unfold shlL
  rw [← shlL_one a hq hk (i := 0) (by omega), ← shlL_one a hq hk (i := 1) (by omega), ← shlL_one a hq hk (i := 2) (by omega), ← shlL_one a hq hk (i := 3) (by omega)]
  rfl
theorem shrL_eq (a : BitVec 256) {q k : Nat} (hk : k < 64) : shrL a q k = [limb (a >>> (64 * q + k)) 0, limb (a >>> (64 * q + k)) 1, limb (a >>> (64 * q + k)) 2, limb (a >>> (64 * q + k)) 3] := by
  unfold shrL
  rw [← shrL_one a hk (i := 0), ← shrL_one a hk (i := 1), ← shrL_one a hk (i := 2), ← shrL_one a hk (i := 3)]
  rfl
end Go.Proofs.Ytakmgioeldbkcaa
