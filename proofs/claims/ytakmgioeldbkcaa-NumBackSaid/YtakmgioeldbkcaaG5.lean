/- Contracts: numbers shifted (num.Shl, num.Shr). -/
import Derived.Test.YtakmgioeldbkcaaG4
import Derived.Test.YtakmgioeldbkcaaL2
namespace Go.Proofs.Ytakmgioeldbkcaa
open Go Go.RowKit

def fixAt (f r : Nat) (l : List (Nat × AV)) : Nat → Nat → List (Nat × AV) := fun f' r' => match Nat.beq f f' && Nat.beq r r' with
  | true => l
  | false => []
def symAt (f : Nat) (rs : List Nat) : Nat → Nat → St → Hint := fun f' r _ => match Nat.beq f f' && rs.any (Nat.beq r) with
  | true => { sym := true }
  | false => {}
noncomputable def X7 (f : Nat) (q : Nat) (k : Int) : EnvX Try.prog := { cs := [], fis := [fi_num_Shl, fi_num_Shr], lcs := [], br := brL [(f, 2, false)], fix := fixAt f 4 [(6, .int .i64 q), (7, .int .u64 k)], hint := symAt f [8, 10] }
noncomputable def X8 (f : Nat) : EnvX Try.prog := { cs := [], fis := [fi_num_Shl, fi_num_Shr], lcs := [], br := brL [(f, 2, true)] }
theorem num_Shl_run0 (a : BitVec 256) (n : Int) (k : Nat) : (callX (X7 48 0 k) (exec (X7 48 0 k) 300) 48 [.u a, .int .u64 n] [] 0).map (fun r => (r.1, r.2.1)) =
    some ([decide (n ≥ 256) == false] ++ [IntKind.i64.wrap (IntKind.u64.wrap (n.tdiv 64)) == ((0 : Nat) : Int)] ++ [n.tmod 64 == (k : Int)] ++ List.replicate 15 (true) ++ [decide (0 ≤ IntKind.u64.wrap (63 - (k : Int)))] ++ List.replicate 12 (true) ++ [decide (0 ≤ IntKind.u64.wrap (63 - (k : Int)))] ++ List.replicate 12 (true) ++ [decide (0 ≤ IntKind.u64.wrap (63 - (k : Int)))] ++ List.replicate 2 (true), .ints .u64 4 (shlL a 0 k)) := by kernel_rfl
theorem num_Shl_run1 (a : BitVec 256) (n : Int) (k : Nat) : (callX (X7 48 1 k) (exec (X7 48 1 k) 300) 48 [.u a, .int .u64 n] [] 0).map (fun r => (r.1, r.2.1)) =
    some ([decide (n ≥ 256) == false] ++ [IntKind.i64.wrap (IntKind.u64.wrap (n.tdiv 64)) == ((1 : Nat) : Int)] ++ [n.tmod 64 == (k : Int)] ++ List.replicate 15 (true) ++ [decide (0 ≤ IntKind.u64.wrap (63 - (k : Int)))] ++ List.replicate 12 (true) ++ [decide (0 ≤ IntKind.u64.wrap (63 - (k : Int)))] ++ List.replicate 2 (true), .ints .u64 4 (shlL a 1 k)) := by kernel_rfl
theorem num_Shl_run2 (a : BitVec 256) (n : Int) (k : Nat) : (callX (X7 48 2 k) (exec (X7 48 2 k) 300) 48 [.u a, .int .u64 n] [] 0).map (fun r => (r.1, r.2.1)) =
    some ([decide (n ≥ 256) == false] ++ [IntKind.i64.wrap (IntKind.u64.wrap (n.tdiv 64)) == ((2 : Nat) : Int)] ++ [n.tmod 64 == (k : Int)] ++ List.replicate 15 (true) ++ [decide (0 ≤ IntKind.u64.wrap (63 - (k : Int)))] ++ List.replicate 2 (true), .ints .u64 4 (shlL a 2 k)) := by kernel_rfl
theorem num_Shl_run3 (a : BitVec 256) (n : Int) (k : Nat) : (callX (X7 48 3 k) (exec (X7 48 3 k) 300) 48 [.u a, .int .u64 n] [] 0).map (fun r => (r.1, r.2.1)) =
    some ([decide (n ≥ 256) == false] ++ [IntKind.i64.wrap (IntKind.u64.wrap (n.tdiv 64)) == ((3 : Nat) : Int)] ++ [n.tmod 64 == (k : Int)] ++ List.replicate 5 (true), .ints .u64 4 (shlL a 3 k)) := by kernel_rfl
theorem num_Shr_run0 (a : BitVec 256) (n : Int) (k : Nat) : (callX (X7 50 0 k) (exec (X7 50 0 k) 300) 50 [.u a, .int .u64 n] [] 0).map (fun r => (r.1, r.2.1)) =
    some ([decide (n ≥ 256) == false] ++ [IntKind.i64.wrap (IntKind.u64.wrap (n.tdiv 64)) == ((0 : Nat) : Int)] ++ [n.tmod 64 == (k : Int)] ++ List.replicate 10 (true) ++ [decide (0 ≤ IntKind.u64.wrap (63 - (k : Int)))] ++ List.replicate 12 (true) ++ [decide (0 ≤ IntKind.u64.wrap (63 - (k : Int)))] ++ List.replicate 12 (true) ++ [decide (0 ≤ IntKind.u64.wrap (63 - (k : Int)))] ++ List.replicate 7 (true), .ints .u64 4 (shrL a 0 k)) := by kernel_rfl
theorem num_Shr_run1 (a : BitVec 256) (n : Int) (k : Nat) : (callX (X7 50 1 k) (exec (X7 50 1 k) 300) 50 [.u a, .int .u64 n] [] 0).map (fun r => (r.1, r.2.1)) =
    some ([decide (n ≥ 256) == false] ++ [IntKind.i64.wrap (IntKind.u64.wrap (n.tdiv 64)) == ((1 : Nat) : Int)] ++ [n.tmod 64 == (k : Int)] ++ List.replicate 10 (true) ++ [decide (0 ≤ IntKind.u64.wrap (63 - (k : Int)))] ++ List.replicate 12 (true) ++ [decide (0 ≤ IntKind.u64.wrap (63 - (k : Int)))] ++ List.replicate 7 (true), .ints .u64 4 (shrL a 1 k)) := by kernel_rfl
theorem num_Shr_run2 (a : BitVec 256) (n : Int) (k : Nat) : (callX (X7 50 2 k) (exec (X7 50 2 k) 300) 50 [.u a, .int .u64 n] [] 0).map (fun r => (r.1, r.2.1)) =
    some ([decide (n ≥ 256) == false] ++ [IntKind.i64.wrap (IntKind.u64.wrap (n.tdiv 64)) == ((2 : Nat) : Int)] ++ [n.tmod 64 == (k : Int)] ++ List.replicate 10 (true) ++ [decide (0 ≤ IntKind.u64.wrap (63 - (k : Int)))] ++ List.replicate 7 (true), .ints .u64 4 (shrL a 2 k)) := by kernel_rfl
theorem num_Shr_run3 (a : BitVec 256) (n : Int) (k : Nat) : (callX (X7 50 3 k) (exec (X7 50 3 k) 300) 50 [.u a, .int .u64 n] [] 0).map (fun r => (r.1, r.2.1)) =
    some ([decide (n ≥ 256) == false] ++ [IntKind.i64.wrap (IntKind.u64.wrap (n.tdiv 64)) == ((3 : Nat) : Int)] ++ [n.tmod 64 == (k : Int)] ++ List.replicate 5 (true), .ints .u64 4 (shrL a 3 k)) := by kernel_rfl
theorem num_Shl_run (a : BitVec 256) (n : Int) : (callX (X8 48) (exec (X8 48) 300) 48 [.u a, .int .u64 n] [] 0).map (fun r => (r.1, r.2.1)) = some ([decide (n ≥ 256) == true], .ints .u64 4 [0, 0, 0, 0]) := by kernel_rfl
theorem num_Shr_run (a : BitVec 256) (n : Int) : (callX (X8 50) (exec (X8 50) 300) 50 [.u a, .int .u64 n] [] 0).map (fun r => (r.1, r.2.1)) = some ([decide (n ≥ 256) == true], .ints .u64 4 [0, 0, 0, 0]) := by kernel_rfl

theorem shift_obs {q k : Nat} (hq : q < 4) (hk : k < 64) : (decide (((64 * q + k : Nat) : Int) ≥ 256) == false) = true ∧ (IntKind.i64.wrap (IntKind.u64.wrap (((64 * q + k : Nat) : Int).tdiv 64)) == (q : Int)) = true ∧ (((64 * q + k : Nat) : Int).tmod 64 == (k : Int)) = true ∧ decide (0 ≤ IntKind.u64.wrap (63 - (k : Int))) = true := by
  have h1 : ((64 * q + k : Nat) : Int).tdiv 64 = ((64 * q + k) / 64 : Nat) := rfl
  have h2 : ((64 * q + k : Nat) : Int).tmod 64 = ((64 * q + k) % 64 : Nat) := rfl
  have h3 : (64 * q + k) / 64 = q := by omega
  have h4 : (64 * q + k) % 64 = k := by omega
  have h5 : q % 18446744073709551616 = q := by omega
  refine ⟨by simp; omega, ?_, ?_, ?_⟩
  · rw [h1, h3, wrap_nat, h5, wrap_i64_id (by omega) (by omega)]
    simp
  · rw [h2, h4]; simp
  · rw [wrap_63 hk]; simp
theorem zero_limbs : [(0 : Int), 0, 0, 0] = [limb (0#256) 0, limb (0#256) 1, limb (0#256) 2, limb (0#256) 3] := by decide

theorem all_true3 {c d e : Bool} {l : List Bool} (h1 : c = true) (h2 : d = true) (h3 : e = true) (hl : ∀ b ∈ l, b = true) : ∀ b ∈ [c] ++ [d] ++ [e] ++ l, b = true := by
  intro b hb
  simp only [List.mem_append, List.mem_singleton] at hb
  rcases hb with ((rfl | rfl) | rfl) | hb
  · exact h1
  · exact h2
  · exact h3
  · exact hl b hb

theorem num_Shl_ok (a : BitVec 256) (n : Nat) (_h : n < 18446744073709551616) : Pure Try.prog 48 [.u a, .int .u64 n] (.u (a <<< n)) := by
  by_cases hn : 256 ≤ n
  · have h0 : a <<< n = 0#256 := BitVec.shiftLeft_eq_zero hn
    exact Pure.by_run mixed _ 300 _ _ (num_Shl_run a n) (by simp; omega) (SameV.u4 (by rw [h0]; exact zero_limbs)).r
  · obtain ⟨q, k, hq, hk, rfl⟩ : ∃ q k, q < 4 ∧ k < 64 ∧ n = 64 * q + k := ⟨n / 64, n % 64, by omega, by omega, by omega⟩
    obtain ⟨o1, o2, o3, o4⟩ := shift_obs hq hk
    have hL := shlL_eq a hq hk
    rcases q with _ | _ | _ | _ | q
    · exact Pure.by_run mixed _ 300 _ _ (num_Shl_run0 a _ k) (by simp only [List.append_assoc] at *; simp only [List.mem_append, List.mem_replicate, List.mem_singleton]; rintro b (rfl | rfl | rfl | h) <;> first | assumption | (rcases h with h | h | h | h | h | h | h <;> simp_all)) (SameV.u4 hL).r
    · exact Pure.by_run mixed _ 300 _ _ (num_Shl_run1 a _ k) (by simp; simp at o1 o2 o3 o4; omega) (SameV.u4 hL).r
    · exact Pure.by_run mixed _ 300 _ _ (num_Shl_run2 a _ k) (by simp; simp at o1 o2 o3 o4; omega) (SameV.u4 hL).r
    · exact Pure.by_run mixed _ 300 _ _ (num_Shl_run3 a _ k) (by simp; simp at o1 o2 o3 o4; omega) (SameV.u4 hL).r
    · omega
noncomputable def c_num_Shl : Ctr Try.prog := Ctr.un 48 (fun a n => .u (a <<< n)) num_Shl_ok
theorem num_Shr_ok (a : BitVec 256) (n : Nat) (_h : n < 18446744073709551616) : Pure Try.prog 50 [.u a, .int .u64 n] (.u (a >>> n)) := by
  by_cases hn : 256 ≤ n
  · have h0 : a >>> n = 0#256 := BitVec.ushiftRight_eq_zero hn
    exact Pure.by_run mixed _ 300 _ _ (num_Shr_run a n) (by simp; omega) (SameV.u4 (by rw [h0]; exact zero_limbs)).r
  · obtain ⟨q, k, hq, hk, rfl⟩ : ∃ q k, q < 4 ∧ k < 64 ∧ n = 64 * q + k := ⟨n / 64, n % 64, by omega, by omega, by omega⟩
    obtain ⟨o1, o2, o3, o4⟩ := shift_obs hq hk
    have hL := shrL_eq a (q := q) hk
    rcases q with _ | _ | _ | _ | q
    · exact Pure.by_run mixed _ 300 _ _ (num_Shr_run0 a _ k) (by simp only [List.append_assoc] at *; simp only [List.mem_append, List.mem_replicate, List.mem_singleton]; rintro b (rfl | rfl | rfl | h) <;> first | assumption | (rcases h with h | h | h | h | h | h | h <;> simp_all)) (SameV.u4 hL).r
    · exact Pure.by_run mixed _ 300 _ _ (num_Shr_run1 a _ k) (by simp; simp at o1 o2 o3 o4; omega) (SameV.u4 hL).r
    · exact Pure.by_run mixed _ 300 _ _ (num_Shr_run2 a _ k) (by simp; simp at o1 o2 o3 o4; omega) (SameV.u4 hL).r
    · exact Pure.by_run mixed _ 300 _ _ (num_Shr_run3 a _ k) (by simp; simp at o1 o2 o3 o4; omega) (SameV.u4 hL).r
    · omega
noncomputable def c_num_Shr : Ctr Try.prog := Ctr.un 50 (fun a n => .u (a >>> n)) num_Shr_ok
end Go.Proofs.Ytakmgioeldbkcaa
