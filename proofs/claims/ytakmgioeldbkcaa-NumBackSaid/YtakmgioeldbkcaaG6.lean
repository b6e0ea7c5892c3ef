/- Contracts: a bit of a number; numbers shifted, by the document (truceref01.Bit, Shl, Shr). -/
import Derived.Test.YtakmgioeldbkcaaG5
namespace Go.Proofs.Ytakmgioeldbkcaa
open Go Go.RowKit

def pat : Nat → Nat → List (Nat × AV) → List AV
  | 0, _, _ => []
  | n + 1, i, l => (match l.find? (fun x => Nat.beq x.1 i) with
    | some x => x.2
    | none => .any) :: pat n (i + 1) l
def hAll (h : Hint) (f : Nat) (rs : List Nat) (o : Nat → Nat → St → Hint) : Nat → Nat → St → Hint := fun f' r s => match Nat.beq f f' && rs.any (Nat.beq r) with
  | true => h
  | false => o f' r s
def noHint : Nat → Nat → St → Hint := fun _ _ _ => {}

def ubit (a : BitVec 256) (i : Nat) : Int := if a.getLsbD i then 1 else 0
noncomputable def X9 : EnvX Try.prog := { cs := [], fis := [fi_truceref01_Bit], lcs := [], br := brL [(100, 1, false)], hint := hAll { dec := fun _ => some false } 100 [1] (symAt 100 [3]) }
theorem ref_Bit_run (a : BitVec 256) (n : Int) : (callX X9 (exec X9 100) 100 [.u a, .int .i64 n] [] 0).map (fun r => (r.1, r.2.1)) =
    some (List.replicate 3 (decide (n < 0) == false) ++ [decide (n > 255) == false, true, decide (0 ≤ IntKind.i64.wrap (n.tdiv 64)) && decide (IntKind.i64.wrap (n.tdiv 64) < ((4 : Nat) : Int)), Nat.ble ((IntKind.i64.wrap (n.tdiv 64)).toNat + 1) 4, true, decide (0 ≤ IntKind.u64.wrap (n.tmod 64))],
      .int .u64 (iand .u64 (ishr .u64 (limb a (IntKind.i64.wrap (n.tdiv 64)).toNat) (IntKind.u64.wrap (n.tmod 64))) 1)) := by kernel_rfl

theorem iand_bv (x y : BitVec 64) : iand .u64 (x.toNat : Int) (y.toNat : Int) = ((x &&& y).toNat : Int) := by
  unfold iand
  show IntKind.u64.wrap ((BitVec.ofInt 64 (x.toNat : Int) &&& BitVec.ofInt 64 (y.toNat : Int)).toNat : Int) = _
  rw [wrap_u64_nat _ (BitVec.isLt _), BitVec.ofInt_natCast, BitVec.ofInt_natCast, BitVec.ofNat_toNat, BitVec.ofNat_toNat, BitVec.setWidth_eq, BitVec.setWidth_eq]
theorem and_one (x : BitVec 64) : ((x &&& 1#64).toNat : Int) = if x.getLsbD 0 then 1 else 0 := by
  have h1 : (x &&& 1#64).toNat = x.toNat % 2 := by rw [BitVec.toNat_and]; exact Nat.and_one_is_mod _
  have h2 : x.getLsbD 0 = decide (x.toNat % 2 = 1) := by rw [BitVec.getLsbD, Nat.testBit_zero]
  rw [h1, h2]
  rcases Nat.mod_two_eq_zero_or_one x.toNat with h | h <;> rw [h] <;> rfl
theorem bit_limb (a : BitVec 256) {q r : Nat} (hr : r < 64) : iand .u64 (ishr .u64 (limb a q) (r : Int)) 1 = ubit a (64 * q + r) := by
  have h1 : (1 : Int) = ((1#64).toNat : Int) := rfl
  rw [limb_part, ishr_bv _ _ (by omega), h1, iand_bv, and_one]
  unfold ubit part
  have : ((a.extractLsb' (64 * q) 64) >>> r).getLsbD 0 = a.getLsbD (64 * q + r) := by
    rw [BitVec.getLsbD_ushiftRight, BitVec.getLsbD_extractLsb']
    simp [hr]
  rw [this]
theorem idx_i64 {n : Nat} (h : n < 18446744073709551616) : IntKind.i64.wrap ((n : Int).tdiv 64) = ((n / 64 : Nat) : Int) := by
  have h1 : (n : Int).tdiv 64 = ((n / 64 : Nat) : Int) := rfl
  rw [h1, wrap_i64_id (by omega) (by omega)]
theorem rem_u64 (n : Nat) : IntKind.u64.wrap ((n : Int).tmod 64) = ((n % 64 : Nat) : Int) := by
  have h1 : (n : Int).tmod 64 = ((n % 64 : Nat) : Int) := rfl
  rw [h1, wrap_nat]
  omega
theorem ref_Bit_ok (a : BitVec 256) (n : Nat) (h : n < 256) : Pure Try.prog 100 [.u a, .int .i64 n] (.int .u64 (ubit a n)) := by
  have e1 := idx_i64 (n := n) (by omega)
  have e2 := rem_u64 n
  have hv := bit_limb a (q := n / 64) (r := n % 64) (by omega)
  rw [show 64 * (n / 64) + n % 64 = n by omega] at hv
  refine Pure.by_run mixed X9 100 _ _ (ref_Bit_run a n) ?_ (SameV.int ?_).r
  · rw [e1, e2]
    have h3 : n / 64 < 4 := by omega
    intro b hb
    simp at hb
    rcases hb with rfl | rfl | rfl | rfl | rfl | rfl | rfl <;> first | rfl | (simp; done) | (simp; omega)
  · rw [e1, e2]; exact hv
noncomputable def c_ref_Bit : Ctr Try.prog := Ctr.of 100 (fun | [.u a, .int .i64 n] => some ([decide (0 ≤ n) && decide (n < 256)], .int .u64 (ubit a n.toNat)) | _ => none) (by
  intro args ob v h hob
  split at h <;> simp at h
  obtain ⟨rfl, rfl⟩ := h
  rename_i a n
  have := hob (decide (0 ≤ n) && decide (n < 256)) (by simp)
  simp only [Bool.and_eq_true, decide_eq_true_eq] at this
  obtain ⟨m, rfl⟩ := Int.eq_ofNat_of_zero_le this.1
  exact ref_Bit_ok a m (by omega))

noncomputable def X10 (d : Bool) : EnvX Try.prog := { cs := [c_ref_Bit], fis := [fi_truceref01_Shl, fi_truceref01_Shr], lcs := [], br := fun f r s => brL [(49, 5, d), (51, 5, d)] f r s, hint := hAll { sym := true } 49 [7] (symAt 51 [7]) }
def shPath : List Nat := [0, 1, 0, 1, 1, 1]
def shSt (a : BitVec 256) (n : Nat) (N : Nat) (i : Int) (o : AV) : St := ⟨pat N 0 [(0, .u a), (1, .int .u64 n), (2, .ptr 0 []), (4, .ptr 1 []), (5, .ptr 2 []), (6, .int .i64 i)], [some ⟨24, .u a, true⟩, some ⟨24, .ints .u64 4 [0, 0, 0, 0], true⟩, some ⟨24, o, true⟩], 3⟩
end Go.Proofs.Ytakmgioeldbkcaa
