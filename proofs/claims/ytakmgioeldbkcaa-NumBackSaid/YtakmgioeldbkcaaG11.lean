/- Contracts: numbers read of bytes; a number's bytes are read as it. -/
import Derived.Test.YtakmgioeldbkcaaG10
namespace Go.Proofs.Ytakmgioeldbkcaa
open Go Go.RowKit

section
variable {P : Program}
def Ctr.s1 (f : Nat) (F : ByteArray → AV) (ok : ∀ s, Pure P f [.str s] (F s)) : Ctr P :=
  Ctr.of f (fun | [.str s] => some ([], F s) | _ => none) (by
    intro args ob v h _
    split at h <;> simp at h
    obtain ⟨_, rfl⟩ := h
    exact ok _)
end
def readU (s : ByteArray) : BitVec 256 := if s.size ≤ 32 then uread s else 0#256
def readE (s : ByteArray) : Int := if s.size ≤ 32 then 0 else 3
def readOut (s : ByteArray) : AV := .tup [.u (readU s), .int .i64 (readE s)]
theorem num_Read_run (s : ByteArray) (hs : s.size ≤ 32) : (callX (X16 [nrLC s hs] false) (exec (X16 [nrLC s hs] false) 100) 38 [.str s] [] 0).map (fun r => (r.1, r.2.1)) =
    some ([decide ((s.size : Int) > 32) == false, decide (s = s), true, (s.size : Int) == s.size, true, true, true], .tup [.u (uread s), .int .i64 0]) := by kernel_rfl
theorem num_Read_far (s : ByteArray) : (callX (X16 [] true) (exec (X16 [] true) 100) 38 [.str s] [] 0).map (fun r => (r.1, r.2.1)) = some ([decide ((s.size : Int) > 32) == true], .tup [.ints .u64 4 [0, 0, 0, 0], .int .i64 3]) := by kernel_rfl
theorem num_Read_ok (s : ByteArray) : Pure Try.prog 38 [.str s] (readOut s) := by
  by_cases hs : s.size ≤ 32
  · refine Pure.by_run mixed _ 100 _ _ (num_Read_run s hs) ?_ (SameR.tup2 (SameV.u (by rw [readU, if_pos hs])) (SameV.int (by rw [readE, if_pos hs])))
    simp; omega
  · exact Pure.by_run mixed _ 100 _ _ (num_Read_far s) (by simp; omega) (SameR.tup2 (SameV.u4 (by rw [readU, if_neg hs]; exact zero_limbs)) (SameV.int (by rw [readE, if_neg hs])))
noncomputable def c_num_Read : Ctr Try.prog := Ctr.s1 38 readOut num_Read_ok
theorem ref_Read_run (s : ByteArray) (hs : s.size ≤ 32) : (callX (X16 [rrLC s hs] false) (exec (X16 [rrLC s hs] false) 100) 39 [.str s] [] 0).map (fun r => (r.1, r.2.1)) =
    some ([decide ((s.size : Int) > 32) == false, decide (s = s), true, (s.size : Int) == s.size, true, true, true], .tup [.u (uread s), .int .i64 0]) := by kernel_rfl
theorem ref_Read_far (s : ByteArray) : (callX (X16 [] true) (exec (X16 [] true) 100) 39 [.str s] [] 0).map (fun r => (r.1, r.2.1)) = some ([decide ((s.size : Int) > 32) == true], .tup [.ints .u64 4 [0, 0, 0, 0], .int .i64 3]) := by kernel_rfl
theorem ref_Read_ok (s : ByteArray) : Pure Try.prog 39 [.str s] (readOut s) := by
  by_cases hs : s.size ≤ 32
  · refine Pure.by_run mixed _ 100 _ _ (ref_Read_run s hs) ?_ (SameR.tup2 (SameV.u (by rw [readU, if_pos hs])) (SameV.int (by rw [readE, if_pos hs])))
    simp; omega
  · exact Pure.by_run mixed _ 100 _ _ (ref_Read_far s) (by simp; omega) (SameR.tup2 (SameV.u4 (by rw [readU, if_neg hs]; exact zero_limbs)) (SameV.int (by rw [readE, if_neg hs])))
noncomputable def c_ref_Read : Ctr Try.prog := Ctr.s1 39 readOut ref_Read_ok

/-! ### A number's bytes -/
theorem ubyte_eq (a : BitVec 256) (j : Nat) : ubyte a j = ((a.toNat / 256 ^ (31 - j) % 256 : Nat) : Int) := by
  unfold ubyte
  rw [limb_part, ishr_bv _ _ (by omega)]
  have h1 : ((part a ((31 - j) / 8)) >>> (8 * ((31 - j) % 8))).toNat % 256 = a.toNat / 256 ^ (31 - j) % 256 := by
    have hp : 256 ^ (31 - j) = 2 ^ (64 * ((31 - j) / 8) + 8 * ((31 - j) % 8)) := by
      rw [show 64 * ((31 - j) / 8) + 8 * ((31 - j) % 8) = 8 * (31 - j) by omega, Nat.pow_mul]
    rw [hp, BitVec.toNat_ushiftRight, Nat.shiftRight_eq_div_pow]
    unfold part
    rw [BitVec.extractLsb'_toNat, Nat.shiftRight_eq_div_pow, Nat.pow_add, ← Nat.div_div_eq_div_mul]
    generalize a.toNat / 2 ^ (64 * ((31 - j) / 8)) = y
    have hr : (31 - j) % 8 < 8 := by omega
    generalize (31 - j) % 8 = r at hr
    have hm : (2 : Nat) ^ 64 = 2 ^ (8 * r) * 2 ^ (64 - 8 * r) := by rw [← Nat.pow_add]; congr 1; omega
    have hd : 256 ∣ 2 ^ (64 - 8 * r) := by
      rw [show (256 : Nat) = 2 ^ 8 from rfl]
      exact Nat.pow_dvd_pow 2 (by omega)
    rw [hm, Nat.mod_mul_right_div_self, Nat.mod_mod_of_dvd _ hd]
  have h2 : IntKind.u8.wrap ((((part a ((31 - j) / 8)) >>> (8 * ((31 - j) % 8))).toNat : Nat) : Int) = ((((part a ((31 - j) / 8)) >>> (8 * ((31 - j) % 8))).toNat % 256 : Nat) : Int) := by
    simp [IntKind.wrap, IntKind.signed, IntKind.bits]
  rw [h2, h1]
theorem ubytes_list (a : BitVec 256) : (ubytes a).data.toList = (List.range 32).map (fun j => UInt8.ofNat (ubyte a j).toNat) := by
  unfold ubytes bytesOf
  simp
theorem ubytes_size (a : BitVec 256) : (ubytes a).size = 32 := by
  rw [← size_list, ubytes_list]; simp
theorem ubytes_read (a : BitVec 256) : readU (ubytes a) = a := by
  rw [readU, if_pos (by rw [ubytes_size]; omega)]
  unfold uread
  have : beN (ubytes a).data.toList = a.toNat := by
    refine beN_digits a.toNat _ 32 (by rw [size_list, ubytes_size]) ?_ (Nat.lt_of_lt_of_le a.isLt (by decide))
    intro j hj
    rw [ubytes_list, List.getD, List.getElem?_map, List.getElem?_range hj]
    simp only [Option.map_some, Option.getD_some, ubyte_eq a j, Int.toNat_natCast, UInt8.toNat_ofNat']
    rw [show 32 - 1 - j = 31 - j by omega]
    omega
  rw [this]
  simp
theorem ubytes_err (a : BitVec 256) : readE (ubytes a) = 0 := by rw [readE, if_pos (by rw [ubytes_size]; omega)]
end Go.Proofs.Ytakmgioeldbkcaa
