/- Contracts: numbers read of bytes (num.Read, truceref01.Read). -/
import Derived.Test.YtakmgioeldbkcaaG9
import Derived.Test.YtakmgioeldbkcaaL3
namespace Go.Proofs.Ytakmgioeldbkcaa
open Go Go.RowKit

/-- The byte's step of 'truceref01.Read'. -/
theorem ref_read_step (m b i : Nat) (hb : b < 256) (hi : i < 32) (hm : m < 256 ^ i) :
    ([limb (BitVec.ofNat 256 m) 0, limb (BitVec.ofNat 256 m) 1, limb (BitVec.ofNat 256 m) 2, limb (BitVec.ofNat 256 m) 3].set (i / 8) (ior .u64 (limb (BitVec.ofNat 256 m) (i / 8)) (ishl .u64 (b : Int) ((8 * (i % 8) : Nat) : Int)))) =
    [limb (BitVec.ofNat 256 (b * 256 ^ i + m)) 0, limb (BitVec.ofNat 256 (b * 256 ^ i + m)) 1, limb (BitVec.ofNat 256 (b * 256 ^ i + m)) 2, limb (BitVec.ofNat 256 (b * 256 ^ i + m)) 3] := by
  rw [← byte_or m b i hm]
  have hp : ∀ p, p < 4 → part (BitVec.ofNat 256 m ||| BitVec.ofNat 256 b <<< (8 * i)) p = part (BitVec.ofNat 256 m) p ||| (if p = i / 8 then BitVec.ofNat 64 b <<< (8 * (i % 8)) else 0#64) := by
    intro p hp
    rw [← part_byte hb hp]
    unfold part
    rw [BitVec.extractLsb'_or]
  refine set_four (f := fun p => limb (BitVec.ofNat 256 m ||| BitVec.ofNat 256 b <<< (8 * i)) p) ?_ (by omega) ?_ rfl
  · intro p hp4 hne
    have : limb (BitVec.ofNat 256 m) p = limb (BitVec.ofNat 256 m ||| BitVec.ofNat 256 b <<< (8 * i)) p := by
      rw [limb_part, limb_part, hp p hp4, if_neg hne]
      simp
    rcases p with _ | _ | _ | _ | p
    · exact this
    · exact this
    · exact this
    · exact this
    · omega
  · show _ = limb (BitVec.ofNat 256 m ||| BitVec.ofNat 256 b <<< (8 * i)) (i / 8)
    rw [limb_part, limb_part, hp _ (by omega), if_pos rfl]
    have hbb : (b : Int) = ((BitVec.ofNat 64 b).toNat : Int) := by
      rw [BitVec.toNat_ofNat]; omega
    rw [hbb, ishl_bv _ _ (by omega), ior_bv]

noncomputable def X15 (d : Bool) : EnvX Try.prog := { cs := [c_num_Shl], fis := [fi_num_Read, fi_truceref01_Read], lcs := [], br := brL [(38, 5, d), (39, 6, d)], hint := hAll { sym := true } 38 [8] (symAt 39 [8]) }
def nrPath : List Nat := [0, 1, 0, 1, 1, 1]
def rrPath : List Nat := [0, 1, 0, 1, 1, 1, 1]
def nrSt (s : ByteArray) (N : Nat) (i : Int) (o : AV) : St := ⟨pat N 0 [(0, .str s), (2, .ptr 0 []), (3, .int .i64 0), (4, .ptr 5 []), (11, .int .i64 s.size), (12, .int .i64 i)], [some ⟨24, .ints .u64 4 [0, 0, 0, 0], true⟩, none, none, none, none, some ⟨24, o, true⟩], 6⟩
def rrSt (s : ByteArray) (N : Nat) (i : Int) (o : AV) : St := ⟨pat N 0 [(0, .str s), (2, .ptr 0 []), (3, .int .i64 0), (4, .ptr 2 []), (5, .int .i64 s.size), (6, .int .i64 i)], [some ⟨24, .ints .u64 4 [0, 0, 0, 0], true⟩, none, some ⟨24, o, true⟩], 3⟩

def uread (s : ByteArray) : BitVec 256 := BitVec.ofNat 256 (beN s.data.toList)
theorem byteAt_nat (s : ByteArray) (i : Nat) : byteAt s i = ((s.data.toList.getD i 0).toNat : Int) := rfl
theorem nrSim {s : ByteArray} {N : Nat} {i : Int} {l : List Int} {y : BitVec 256} (h : l = [limb y 0, limb y 1, limb y 2, limb y 3]) : Sim (nrSt s N i (.ints .u64 4 l)) (nrSt s N i (.u y)) :=
  Sim.of (SimS.refl _) ⟨⟨rfl, rfl, SimC.refl _⟩, trivial, trivial, trivial, trivial, ⟨rfl, rfl, SimC.u4 h⟩, trivial⟩
theorem rrSim {s : ByteArray} {N : Nat} {i : Int} {l : List Int} {y : BitVec 256} (h : l = [limb y 0, limb y 1, limb y 2, limb y 3]) : Sim (rrSt s N i (.ints .u64 4 l)) (rrSt s N i (.u y)) :=
  Sim.of (SimS.refl _) ⟨⟨rfl, rfl, SimC.refl _⟩, trivial, ⟨rfl, rfl, SimC.u4 h⟩, trivial⟩
theorem nr_step (s : ByteArray) (i : Int) (x : BitVec 256) : stepX (X15 true) 100 fi_num_Read nrPath [0, 2, 3, 4, 11, 12] 6 (nrSt s fi_num_Read.fn.ntmps i (.u x)) =
    some ([decide (i < s.size) == true, true, true, true, decide (0 ≤ i) && decide (i < s.size), true, true], .normal, nrSt s fi_num_Read.fn.ntmps (IntKind.i64.wrap (i + 1)) (.ints .u64 4 [ior .u64 (limb (x <<< 8) 0) (IntKind.u64.wrap (byteAt s i.toNat)), limb (x <<< 8) 1, limb (x <<< 8) 2, limb (x <<< 8) 3])) := by kernel_rfl
def rrV (s : ByteArray) (i : Int) (x : BitVec 256) : AV := .ints .u64 4 ([limb x 0, limb x 1, limb x 2, limb x 3].set (IntKind.i64.wrap (i.tdiv 8)).toNat (ior .u64 (limb x (IntKind.i64.wrap (i.tdiv 8)).toNat)
  (ishl .u64 (IntKind.u64.wrap (byteAt s (IntKind.i64.wrap (IntKind.i64.wrap ((s.size : Int) - 1) - i)).toNat)) (IntKind.u64.wrap (IntKind.i64.wrap (8 * i.tmod 8))))))
theorem rr_step (s : ByteArray) (i : Int) (x : BitVec 256) : stepX (X15 true) 100 fi_truceref01_Read rrPath [0, 2, 3, 4, 5, 6] 3 (rrSt s fi_truceref01_Read.fn.ntmps i (.u x)) =
    some ([decide (i < s.size) == true, true, true, decide (0 ≤ IntKind.i64.wrap (i.tdiv 8)) && decide (IntKind.i64.wrap (i.tdiv 8) < ((4 : Nat) : Int)), Nat.ble ((IntKind.i64.wrap (i.tdiv 8)).toNat + 1) 4,
      decide (0 ≤ IntKind.i64.wrap (IntKind.i64.wrap ((s.size : Int) - 1) - i)) && decide (IntKind.i64.wrap (IntKind.i64.wrap ((s.size : Int) - 1) - i) < s.size), true, decide (0 ≤ IntKind.u64.wrap (IntKind.i64.wrap (8 * i.tmod 8))),
      decide (0 ≤ IntKind.i64.wrap (i.tdiv 8)) && decide (IntKind.i64.wrap (i.tdiv 8) < ((4 : Nat) : Int)), Nat.ble ((IntKind.i64.wrap (i.tdiv 8)).toNat + 1) 4], .normal, rrSt s fi_truceref01_Read.fn.ntmps (IntKind.i64.wrap (i + 1)) (rrV s i x)) := by kernel_rfl
noncomputable def nrEnd (s : ByteArray) (i : Int) (x : BitVec 256) : St := ⟨pat fi_num_Read.fn.ntmps 0 [(0, .str s), (2, .ptr 0 []), (3, .int .i64 0), (4, .ptr 5 []), (11, .int .i64 s.size), (12, .int .i64 i), (13, .bool (decide (i < s.size)))], [some ⟨24, .ints .u64 4 [0, 0, 0, 0], true⟩, none, none, none, none, some ⟨24, .u x, true⟩], 7⟩
noncomputable def rrEnd (s : ByteArray) (i : Int) (x : BitVec 256) : St := ⟨pat fi_truceref01_Read.fn.ntmps 0 [(0, .str s), (2, .ptr 0 []), (3, .int .i64 0), (4, .ptr 2 []), (5, .int .i64 s.size), (6, .int .i64 i), (12, .int .i64 i), (13, .int .i64 s.size), (14, .bool (decide (i < s.size)))], [some ⟨24, .ints .u64 4 [0, 0, 0, 0], true⟩, none, some ⟨24, .u x, true⟩], 6⟩
theorem nr_end (s : ByteArray) (i : Int) (x : BitVec 256) : exec (X15 false) 100 fi_num_Read (0 :: nrPath) 0 (loopAt fi_num_Read nrPath) (nrSt s fi_num_Read.fn.ntmps i (.u x)) = some ([decide (i < s.size) == false], .exit 0, 5, nrEnd s i x) := by kernel_rfl
theorem rr_end (s : ByteArray) (i : Int) (x : BitVec 256) : exec (X15 false) 100 fi_truceref01_Read (0 :: rrPath) 0 (loopAt fi_truceref01_Read rrPath) (rrSt s fi_truceref01_Read.fn.ntmps i (.u x)) = some ([decide (i < s.size) == false], .exit 0, 6, rrEnd s i x) := by kernel_rfl

theorem size_list (s : ByteArray) : s.data.toList.length = s.size := by rw [Array.length_toList]; rfl
theorem zero_nat : BitVec.ofNat 256 0 = 0#256 := rfl
theorem nr_loop (s : ByteArray) (hs : s.size ≤ 32) : CodeOK Try.prog (.loop (loopAt fi_num_Read nrPath)) (nrSt s fi_num_Read.fn.ntmps 0 (.ints .u64 4 [0, 0, 0, 0])) (.exit 0) (nrEnd s s.size (uread s)) := by
  refine rounds_sim mixed (X15 true) (X15 false) 100 fi_num_Read nrPath (fun j => nrSt s fi_num_Read.fn.ntmps ((j : Nat) : Int) (.u (BitVec.ofNat 256 (beN (s.data.toList.take j))))) [0, 2, 3, 4, 11, 12] 6 s.size (.exit 0) _ _ (loop_sub (c := loopAt fi_num_Read nrPath) (by kernel_rfl)) ?_ (fun _ _ => Nat.le_refl 6) ?_ ?_ (by simp)
  · exact nrSim zero_limbs
  · intro j hj
    have h1 : IntKind.i64.wrap ((j : Int) + 1) = ((j + 1 : Nat) : Int) := by rw [wrap_i64_id (by omega) (by omega)]; omega
    have hb : (s.data.toList.getD j 0).toNat < 256 := UInt8.toNat_lt _
    refine ⟨_, _, nr_step s j _, by simp [hj], by kernel_rfl, ?_⟩
    rw [h1, Int.toNat_natCast, byteAt_nat, wrap_nat, Nat.mod_eq_of_lt (by omega), num_read_step _ _ hb, ← beN_take _ (by rw [size_list]; exact hj)]
    exact nrSim rfl
  · have h2 : BitVec.ofNat 256 (beN (s.data.toList.take s.size)) = uread s := by rw [List.take_of_length_le (by rw [size_list]; omega)]; rfl
    simp only [h2]
    exact ⟨_, _, nr_end s s.size _, by simp⟩
theorem rr_loop (s : ByteArray) (hs : s.size ≤ 32) : CodeOK Try.prog (.loop (loopAt fi_truceref01_Read rrPath)) (rrSt s fi_truceref01_Read.fn.ntmps 0 (.ints .u64 4 [0, 0, 0, 0])) (.exit 0) (rrEnd s s.size (uread s)) := by
  refine rounds_sim mixed (X15 true) (X15 false) 100 fi_truceref01_Read rrPath (fun j => rrSt s fi_truceref01_Read.fn.ntmps ((j : Nat) : Int) (.u (BitVec.ofNat 256 (beN (s.data.toList.drop (s.data.toList.length - j)))))) [0, 2, 3, 4, 5, 6] 3 s.size (.exit 0) _ _ (loop_sub (c := loopAt fi_truceref01_Read rrPath) (by kernel_rfl)) ?_ (fun _ _ => Nat.le_refl 3) ?_ ?_ (by simp)
  · refine rrSim ?_
    rw [Nat.sub_zero, List.drop_length]
    exact zero_limbs
  · intro j hj
    have hsz := size_list s
    have h1 : IntKind.i64.wrap ((j : Int) + 1) = ((j + 1 : Nat) : Int) := by rw [wrap_i64_id (by omega) (by omega)]; omega
    have h2 : IntKind.i64.wrap (IntKind.i64.wrap ((s.size : Int) - 1) - (j : Int)) = ((s.data.toList.length - 1 - j : Nat) : Int) := by rw [wrap_i64_id (n := (s.size : Int) - 1) (by omega) (by omega), wrap_i64_id (by omega) (by omega)]; omega
    have h3 : IntKind.i64.wrap ((j : Int).tdiv 8) = ((j / 8 : Nat) : Int) := by
      have e : (j : Int).tdiv 8 = ((j / 8 : Nat) : Int) := rfl
      rw [e, wrap_i64_id (by omega) (by omega)]
    have h4 : IntKind.u64.wrap (IntKind.i64.wrap (8 * (j : Int).tmod 8)) = ((8 * (j % 8) : Nat) : Int) := by
      have e : (j : Int).tmod 8 = ((j % 8 : Nat) : Int) := rfl
      have e2 : 8 * ((j % 8 : Nat) : Int) = ((8 * (j % 8) : Nat) : Int) := by omega
      rw [e, e2, wrap_i64_id (by omega) (by omega), wrap_nat, Nat.mod_eq_of_lt (by omega)]
    have hb : (s.data.toList.getD (s.data.toList.length - 1 - j) 0).toNat < 256 := UInt8.toNat_lt _
    have hm : beN (s.data.toList.drop (s.data.toList.length - j)) < 256 ^ j := by
      have := beN_lt (s.data.toList.drop (s.data.toList.length - j))
      rw [List.length_drop, show s.data.toList.length - (s.data.toList.length - j) = j by omega] at this
      exact this
    have h8 : j / 8 < 4 := by omega
    refine ⟨_, _, rr_step s j _, ?_, by kernel_rfl, ?_⟩
    · rw [h2, h3, h4]
      intro b hb
      simp only [List.mem_cons, List.not_mem_nil, or_false] at hb
      rcases hb with hb | hb | hb | hb | hb | hb | hb | hb | hb | hb <;> rw [hb] <;> first | rfl | (simp only [Bool.and_eq_true, decide_eq_true_eq, beq_iff_eq]; omega) | (simp; omega)
    · rw [h1]
      unfold rrV
      rw [h2, h3, h4, Int.toNat_natCast, Int.toNat_natCast, byteAt_nat, wrap_nat, Nat.mod_eq_of_lt (by omega), ref_read_step _ _ j hb (by omega) hm, ← beN_drop _ (by omega)]
      exact rrSim rfl
  · have h2 : BitVec.ofNat 256 (beN (s.data.toList.drop (s.data.toList.length - s.size))) = uread s := by
      rw [size_list, Nat.sub_self, List.drop_zero]; rfl
    simp only [h2]
    exact ⟨_, _, rr_end s s.size _, by simp⟩
noncomputable def nrLC (s : ByteArray) (hs : s.size ≤ 32) : LC Try.prog := LC.of fi_num_Read nrPath _ _ _ (loop_sub (c := loopAt fi_num_Read nrPath) (by kernel_rfl)) (nr_loop s hs)
noncomputable def rrLC (s : ByteArray) (hs : s.size ≤ 32) : LC Try.prog := LC.of fi_truceref01_Read rrPath _ _ _ (loop_sub (c := loopAt fi_truceref01_Read rrPath) (by kernel_rfl)) (rr_loop s hs)
noncomputable def X16 (l : List (LC Try.prog)) (d : Bool) : EnvX Try.prog := { cs := [], fis := [fi_num_Read, fi_truceref01_Read], lcs := l, br := brL [(38, 1, d), (39, 3, d)] }
end Go.Proofs.Ytakmgioeldbkcaa
