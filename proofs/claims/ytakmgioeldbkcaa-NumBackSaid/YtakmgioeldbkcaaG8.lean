/- Contracts: how many bits a number has. -/
import Derived.Test.YtakmgioeldbkcaaG7
namespace Go.Proofs.Ytakmgioeldbkcaa
open Go Go.RowKit

def blen (n : Nat) : Nat := if n = 0 then 0 else n.log2 + 1
def tab8 : ByteArray := ⟨((List.range 256).map fun i => UInt8.ofNat (blen i)).toArray⟩
def sh (d : Bool) (k n : Int) : Int := match d with
  | true => ishr .u64 n k
  | false => n
def ad (d : Bool) (k n : Int) : Int := match d with
  | true => IntKind.i64.wrap (n + k)
  | false => n
def ad0 (d : Bool) : Int := match d with
  | true => 32
  | false => 0
noncomputable def X13 (d e f : Bool) : EnvX Try.prog := { cs := [], fis := [fi_math_bits_Len64], lcs := [], br := brL [(101, 1, d), (101, 4, e), (101, 7, f)], hint := symAt 101 [10] }
theorem len64_run (d e f : Bool) (n : Int) : (callX (X13 d e f) (exec (X13 d e f) 100) 101 [.int .u64 n] [] 0).map (fun r => (r.1, r.2.1)) =
    some ([decide (n ≥ 4294967296) == d, decide (sh d 32 n ≥ 65536) == e, decide (sh e 16 (sh d 32 n) ≥ 256) == f, decide (0 ≤ IntKind.u8.wrap (sh f 8 (sh e 16 (sh d 32 n)))) && decide (IntKind.u8.wrap (sh f 8 (sh e 16 (sh d 32 n))) < tab8.size)],
      .int .i64 (IntKind.i64.wrap (ad f 8 (ad e 16 (ad0 d)) + IntKind.i64.wrap (byteAt tab8 (IntKind.u8.wrap (sh f 8 (sh e 16 (sh d 32 n)))).toNat)))) := by
  cases d <;> cases e <;> cases f <;> kernel_rfl

theorem blen_div {x k : Nat} (h : 2 ^ k ≤ x) : blen (x / 2 ^ k) + k = blen x := by
  have hk : 0 < 2 ^ k := Nat.two_pow_pos k
  have hx : x ≠ 0 := by omega
  have hd : x / 2 ^ k ≠ 0 := Nat.pos_iff_ne_zero.1 (Nat.div_pos h hk)
  unfold blen
  rw [if_neg hd, if_neg hx]
  have key : x.log2 = (x / 2 ^ k).log2 + k := by
    rw [Nat.log2_eq_iff hx]
    obtain ⟨h1, h2⟩ := (Nat.log2_eq_iff (k := (x / 2 ^ k).log2) hd).1 rfl
    constructor
    · rw [Nat.pow_add]
      exact (Nat.le_div_iff_mul_le hk).1 h1
    · rw [show (x / 2 ^ k).log2 + k + 1 = ((x / 2 ^ k).log2 + 1) + k by omega, Nat.pow_add]
      exact (Nat.div_lt_iff_lt_mul hk).1 h2
  omega
theorem blen_le {x k : Nat} (h : x < 2 ^ k) : blen x ≤ k := by
  unfold blen
  split
  · omega
  · rename_i hx
    have := (Nat.log2_lt hx).2 h
    omega
theorem tab8_at {i : Nat} (h : i < 256) : byteAt tab8 i = (blen i : Int) := by
  unfold byteAt tab8
  have hb : blen i ≤ 8 := blen_le (by omega)
  have : ((List.range 256).map fun i => UInt8.ofNat (blen i)).getD i 0 = UInt8.ofNat (blen i) := by
    rw [List.getD, List.getElem?_map, List.getElem?_range h]; rfl
  simp only [this]
  rw [UInt8.toNat_ofNat']
  omega
theorem sh_nat (d : Bool) (k : Nat) (hk : k ≤ 64) (n : Nat) : sh d (k : Int) (n : Int) = ((if d then n / 2 ^ k else n : Nat) : Int) := by
  cases d
  · rfl
  · show ishr .u64 (n : Int) (k : Int) = ((n / 2 ^ k : Nat) : Int)
    unfold ishr
    have h1 : min ((k : Int).toNat) IntKind.u64.bits = k := by simp [IntKind.bits]; omega
    have h2 : (2 : Int) ^ k = ((2 ^ k : Nat) : Int) := by simp
    rw [h1, h2, Int.fdiv_eq_ediv_of_nonneg _ (Int.natCast_nonneg _)]
    rfl
theorem ad_nat (d : Bool) (k n : Nat) (hk : k ≤ 64) (hn : n ≤ 1000) : ad d (k : Int) (n : Int) = ((if d then n + k else n : Nat) : Int) := by
  cases d
  · rfl
  · show IntKind.i64.wrap ((n : Int) + (k : Int)) = ((n + k : Nat) : Int)
    rw [wrap_i64_id (by omega) (by omega)]; rfl
theorem ad0_nat (d : Bool) : ad0 d = ((if d then 32 else 0 : Nat) : Int) := by cases d <;> rfl
/-- One halving. -/
theorem half {x c k : Nat} {d : Bool} (hd : d = decide (2 ^ k ≤ x)) : blen (if d then x / 2 ^ k else x) + (if d then c + k else c) = blen x + c := by
  subst hd
  by_cases h : 2 ^ k ≤ x
  · simp only [h, decide_true, if_true]
    have := blen_div h
    omega
  · simp only [h, decide_false]
    simp
theorem half_lt {x k m : Nat} {d : Bool} (hd : d = decide (2 ^ k ≤ x)) (hx : x < 2 ^ (k + m)) (hkm : m ≤ k) : (if d then x / 2 ^ k else x) < 2 ^ k := by
  subst hd
  by_cases h : 2 ^ k ≤ x
  · simp only [h, decide_true, if_true]
    rw [Nat.div_lt_iff_lt_mul (Nat.two_pow_pos k), ← Nat.pow_add]
    exact Nat.lt_of_lt_of_le hx (Nat.pow_le_pow_right (by omega) (by omega))
  · simp only [h, decide_false]
    simp; omega

theorem tab8_size : tab8.size = 256 := by kernel_rfl
theorem wrap_u8_id {n : Nat} (h : n < 256) : IntKind.u8.wrap (n : Int) = n := by
  simp [IntKind.wrap, IntKind.signed, IntKind.bits]; omega
theorem len64_ok (n : Nat) (h : n < 18446744073709551616) : Pure Try.prog 101 [.int .u64 n] (.int .i64 (blen n)) := by
  obtain ⟨d, hd⟩ : ∃ d, d = decide (2 ^ 32 ≤ n) := ⟨_, rfl⟩
  have e1 := sh_nat d 32 (by omega) n
  have b1 := half_lt (m := 32) hd (by omega) (by omega)
  have s1 := half (c := 0) hd
  obtain ⟨x1, hx1⟩ : ∃ x, x = (if d then n / 2 ^ 32 else n) := ⟨_, rfl⟩
  rw [← hx1] at e1 b1 s1
  obtain ⟨e, he⟩ : ∃ e, e = decide (2 ^ 16 ≤ x1) := ⟨_, rfl⟩
  have e2 := sh_nat e 16 (by omega) x1
  have b2 := half_lt (m := 16) he (by omega) (by omega)
  have s2 := half (c := if d then 0 + 32 else 0) he
  obtain ⟨x2, hx2⟩ : ∃ x, x = (if e then x1 / 2 ^ 16 else x1) := ⟨_, rfl⟩
  rw [← hx2] at e2 b2 s2
  obtain ⟨f, hf⟩ : ∃ f, f = decide (2 ^ 8 ≤ x2) := ⟨_, rfl⟩
  have e3 := sh_nat f 8 (by omega) x2
  have b3 := half_lt (m := 8) hf (by omega) (by omega)
  have s3 := half (c := if e then (if d then 0 + 32 else 0) + 16 else (if d then 0 + 32 else 0)) hf
  obtain ⟨x3, hx3⟩ : ∃ x, x = (if f then x2 / 2 ^ 8 else x2) := ⟨_, rfl⟩
  rw [← hx3] at e3 b3 s3
  have r0 : ad0 d = ((if d then 0 + 32 else 0 : Nat) : Int) := by cases d <;> rfl
  obtain ⟨y0, hy0⟩ : ∃ y, y = (if d then 0 + 32 else 0) := ⟨_, rfl⟩
  have z0 : y0 ≤ 32 := by rw [hy0]; split <;> omega
  rw [← hy0] at r0 s1 s2 s3
  have r1 := ad_nat e 16 y0 (by omega) (by omega)
  obtain ⟨y1, hy1⟩ : ∃ y, y = (if e then y0 + 16 else y0) := ⟨_, rfl⟩
  have z1 : y1 ≤ 48 := by rw [hy1]; split <;> omega
  rw [← hy1] at r1 s2 s3
  have r2 := ad_nat f 8 y1 (by omega) (by omega)
  obtain ⟨y2, hy2⟩ : ∃ y, y = (if f then y1 + 8 else y1) := ⟨_, rfl⟩
  have z2 : y2 ≤ 56 := by rw [hy2]; split <;> omega
  rw [← hy2] at r2 s3
  have hb : blen x3 ≤ 8 := blen_le b3
  have g1 : sh d 32 (n : Int) = (x1 : Int) := e1
  have g2 : sh e 16 (x1 : Int) = (x2 : Int) := e2
  have g3 : sh f 8 (x2 : Int) = (x3 : Int) := e3
  have q1 : ad e 16 (y0 : Int) = (y1 : Int) := r1
  have q2 : ad f 8 (y1 : Int) = (y2 : Int) := r2
  have b3' : x3 < 256 := b3
  refine Pure.by_run mixed _ 100 _ _ (len64_run d e f n) ?_ (SameV.int ?_).r
  · simp only [g1, g2, g3, wrap_u8_id b3']
    intro b hb
    simp only [List.mem_cons, List.not_mem_nil, or_false] at hb
    rcases hb with hb | hb | hb | hb <;> rw [hb]
    · rw [hd]; simp only [beq_iff_eq, decide_eq_decide]; omega
    · rw [he]; simp only [beq_iff_eq, decide_eq_decide]; omega
    · rw [hf]; simp only [beq_iff_eq, decide_eq_decide]; omega
    · rw [tab8_size]
      simp only [Bool.and_eq_true, decide_eq_true_eq]; omega
  · simp only [g1, g2, g3, wrap_u8_id b3', r0, q1, q2, Int.toNat_natCast, tab8_at b3']
    rw [wrap_i64_id (n := (blen x3 : Int)) (by omega) (by omega), wrap_i64_id (by omega) (by omega)]
    omega
noncomputable def c_len64 : Ctr Try.prog := Ctr.n1 101 (fun n => .int .i64 (blen n)) len64_ok
end Go.Proofs.Ytakmgioeldbkcaa
