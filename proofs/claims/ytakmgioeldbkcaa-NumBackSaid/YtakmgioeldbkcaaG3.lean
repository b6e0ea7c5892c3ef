/- Contracts: which is more, by the document (truceref01.Cmp). -/
import Derived.Test.YtakmgioeldbkcaaG2
namespace Go.Proofs.Ytakmgioeldbkcaa
open Go Go.RowKit

def intEq (n : Int) (k : Nat) : Bool :=
  match n with
  | .ofNat m => Nat.beq m k
  | _ => false

/-- Decisions by a counter's slot: at the value 'j' these, else those. -/
def brAt (f t j : Nat) (here there : List (Nat × Bool)) : Nat → Nat → St → Option Bool := fun f' r s =>
  match Nat.beq f f' with
  | true => match sget s.ss t with
    | .int _ n => match intEq n j with
      | true => brL (here.map fun x => (f, x.1, x.2)) f r s
      | false => brL (there.map fun x => (f, x.1, x.2)) f r s
    | _ => none
  | false => none

noncomputable def X5 (j : Nat) (here : List (Nat × Bool)) : EnvX Try.prog := { cs := [], fis := [fi_truceref01_Cmp], lcs := [], br := brAt 32 5 j here [(4, false), (6, false)] }
def cmpPre (a b : BitVec 256) : Nat → List Bool
  | 0 => []
  | k + 1 => cmpPre a b k ++ [decide (limb a (3 - k) < limb b (3 - k)) == false, decide (limb a (3 - k) > limb b (3 - k)) == false]
theorem ref_Cmp_lt3 (a b : BitVec 256) : (callX (X5 3 [(4, true)]) (exec (X5 3 [(4, true)]) 100) 32 [.u a, .u b] [] 0).map (fun r => (r.1, r.2.1)) =
    some (cmpPre a b 0 ++ [decide (limb a 3 < limb b 3) == true], .int .i64 (-1)) := by kernel_rfl
theorem ref_Cmp_gt3 (a b : BitVec 256) : (callX (X5 3 [(4, false), (6, true)]) (exec (X5 3 [(4, false), (6, true)]) 100) 32 [.u a, .u b] [] 0).map (fun r => (r.1, r.2.1)) =
    some (cmpPre a b 0 ++ [decide (limb a 3 < limb b 3) == false, decide (limb a 3 > limb b 3) == true], .int .i64 1) := by kernel_rfl
theorem ref_Cmp_lt2 (a b : BitVec 256) : (callX (X5 2 [(4, true)]) (exec (X5 2 [(4, true)]) 100) 32 [.u a, .u b] [] 0).map (fun r => (r.1, r.2.1)) =
    some (cmpPre a b 1 ++ [decide (limb a 2 < limb b 2) == true], .int .i64 (-1)) := by kernel_rfl
theorem ref_Cmp_gt2 (a b : BitVec 256) : (callX (X5 2 [(4, false), (6, true)]) (exec (X5 2 [(4, false), (6, true)]) 100) 32 [.u a, .u b] [] 0).map (fun r => (r.1, r.2.1)) =
    some (cmpPre a b 1 ++ [decide (limb a 2 < limb b 2) == false, decide (limb a 2 > limb b 2) == true], .int .i64 1) := by kernel_rfl
theorem ref_Cmp_lt1 (a b : BitVec 256) : (callX (X5 1 [(4, true)]) (exec (X5 1 [(4, true)]) 100) 32 [.u a, .u b] [] 0).map (fun r => (r.1, r.2.1)) =
    some (cmpPre a b 2 ++ [decide (limb a 1 < limb b 1) == true], .int .i64 (-1)) := by kernel_rfl
theorem ref_Cmp_gt1 (a b : BitVec 256) : (callX (X5 1 [(4, false), (6, true)]) (exec (X5 1 [(4, false), (6, true)]) 100) 32 [.u a, .u b] [] 0).map (fun r => (r.1, r.2.1)) =
    some (cmpPre a b 2 ++ [decide (limb a 1 < limb b 1) == false, decide (limb a 1 > limb b 1) == true], .int .i64 1) := by kernel_rfl
theorem ref_Cmp_lt0 (a b : BitVec 256) : (callX (X5 0 [(4, true)]) (exec (X5 0 [(4, true)]) 100) 32 [.u a, .u b] [] 0).map (fun r => (r.1, r.2.1)) =
    some (cmpPre a b 3 ++ [decide (limb a 0 < limb b 0) == true], .int .i64 (-1)) := by kernel_rfl
theorem ref_Cmp_gt0 (a b : BitVec 256) : (callX (X5 0 [(4, false), (6, true)]) (exec (X5 0 [(4, false), (6, true)]) 100) 32 [.u a, .u b] [] 0).map (fun r => (r.1, r.2.1)) =
    some (cmpPre a b 3 ++ [decide (limb a 0 < limb b 0) == false, decide (limb a 0 > limb b 0) == true], .int .i64 1) := by kernel_rfl
theorem ref_Cmp_eq (a b : BitVec 256) : (callX (X5 9 []) (exec (X5 9 []) 100) 32 [.u a, .u b] [] 0).map (fun r => (r.1, r.2.1)) = some (cmpPre a b 4, .int .i64 0) := by kernel_rfl

theorem nat4_lt3 {a0 a1 a2 a3 b0 b1 b2 b3 : Nat} (ha0 : a0 < 18446744073709551616) (ha1 : a1 < 18446744073709551616) (ha2 : a2 < 18446744073709551616) (h : a3 < b3) : nat4 a0 a1 a2 a3 < nat4 b0 b1 b2 b3 := by unfold nat4; omega
theorem nat4_lt2 {a0 a1 a2 c b0 b1 b2 : Nat} (ha0 : a0 < 18446744073709551616) (ha1 : a1 < 18446744073709551616) (h : a2 < b2) : nat4 a0 a1 a2 c < nat4 b0 b1 b2 c := by unfold nat4; omega
theorem nat4_lt1 {a0 a1 d c b0 b1 : Nat} (ha0 : a0 < 18446744073709551616) (h : a1 < b1) : nat4 a0 a1 d c < nat4 b0 b1 d c := by unfold nat4; omega
theorem nat4_lt0 {a0 e d c b0 : Nat} (h : a0 < b0) : nat4 a0 e d c < nat4 b0 e d c := by unfold nat4; omega
theorem ucmp_lt {a b : BitVec 256} (h : a.toNat < b.toNat) : ucmp a b = -1 := by
  unfold ucmp
  rw [if_neg (by rintro rfl; omega), if_pos (by simp [uless, h])]
theorem ucmp_gt {a b : BitVec 256} (h : b.toNat < a.toNat) : ucmp a b = 1 := by
  unfold ucmp
  rw [if_neg (by rintro rfl; omega), if_neg (by simp [uless]; omega)]

theorem ref_Cmp_ok (a b : BitVec 256) : Pure Try.prog 32 [.u a, .u b] (.int .i64 (ucmp a b)) := by
  obtain ⟨a0, a1, a2, a3, h0, h1, h2, h3, e0, e1, e2, e3, ha⟩ := limbs_nat a
  obtain ⟨b0, b1, b2, b3, g0, g1, g2, g3, f0, f1, f2, f3, hb⟩ := limbs_nat b
  have ha : a.toNat = nat4 a0 a1 a2 a3 := ha
  have hb : b.toNat = nat4 b0 b1 b2 b3 := hb
  rcases Nat.lt_trichotomy a3 b3 with h | rfl | h
  · exact Pure.by_run mixed _ 100 _ _ (ref_Cmp_lt3 a b) (by simp [cmpPre, e3, f3, h]) (SameV.int (by rw [ucmp_lt]; rw [ha, hb]; exact nat4_lt3 h0 h1 h2 h)).r
  · rcases Nat.lt_trichotomy a2 b2 with h | rfl | h
    · exact Pure.by_run mixed _ 100 _ _ (ref_Cmp_lt2 a b) (by simp [cmpPre, e3, f3, e2, f2, h]) (SameV.int (by rw [ucmp_lt]; rw [ha, hb]; exact nat4_lt2 h0 h1 h)).r
    · rcases Nat.lt_trichotomy a1 b1 with h | rfl | h
      · exact Pure.by_run mixed _ 100 _ _ (ref_Cmp_lt1 a b) (by simp [cmpPre, e3, f3, e2, f2, e1, f1, h]) (SameV.int (by rw [ucmp_lt]; rw [ha, hb]; exact nat4_lt1 h0 h)).r
      · rcases Nat.lt_trichotomy a0 b0 with h | rfl | h
        · exact Pure.by_run mixed _ 100 _ _ (ref_Cmp_lt0 a b) (by simp [cmpPre, e3, f3, e2, f2, e1, f1, e0, f0, h]) (SameV.int (by rw [ucmp_lt]; rw [ha, hb]; exact nat4_lt0 h)).r
        · have : a = b := BitVec.eq_of_toNat_eq (by rw [ha, hb])
          exact Pure.by_run mixed _ 100 _ _ (ref_Cmp_eq a b) (by simp [cmpPre, e3, f3, e2, f2, e1, f1, e0, f0]) (SameV.int (by unfold ucmp; rw [if_pos this])).r
        · exact Pure.by_run mixed _ 100 _ _ (ref_Cmp_gt0 a b) (by simp [cmpPre, e3, f3, e2, f2, e1, f1, e0, f0, h, Nat.le_of_lt h]) (SameV.int (by rw [ucmp_gt]; rw [ha, hb]; exact nat4_lt0 h)).r
      · exact Pure.by_run mixed _ 100 _ _ (ref_Cmp_gt1 a b) (by simp [cmpPre, e3, f3, e2, f2, e1, f1, h, Nat.le_of_lt h]) (SameV.int (by rw [ucmp_gt]; rw [ha, hb]; exact nat4_lt1 g0 h)).r
    · exact Pure.by_run mixed _ 100 _ _ (ref_Cmp_gt2 a b) (by simp [cmpPre, e3, f3, e2, f2, h, Nat.le_of_lt h]) (SameV.int (by rw [ucmp_gt]; rw [ha, hb]; exact nat4_lt2 g0 g1 h)).r
  · exact Pure.by_run mixed _ 100 _ _ (ref_Cmp_gt3 a b) (by simp [cmpPre, e3, f3, h, Nat.le_of_lt h]) (SameV.int (by rw [ucmp_gt]; rw [ha, hb]; exact nat4_lt3 g0 g1 g2 h)).r
noncomputable def c_ref_Cmp : Ctr Try.prog := Ctr.u2 32 (fun a b => .int .i64 (ucmp a b)) ref_Cmp_ok
end Go.Proofs.Ytakmgioeldbkcaa
