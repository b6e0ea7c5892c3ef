/- Contracts: numbers shifted, by the document (truceref01.Shl, Shr): bit by bit. -/
import Derived.Test.YtakmgioeldbkcaaG6
namespace Go.Proofs.Ytakmgioeldbkcaa
open Go Go.RowKit

/-- The bits below 'i'. -/
def lowB (x : BitVec 256) (i : Nat) : BitVec 256 := BitVec.ofNat 256 (x.toNat % 2 ^ i)
theorem lowB_bit (x : BitVec 256) (i j : Nat) : (lowB x i).getLsbD j = (decide (j < i) && x.getLsbD j) := by
  unfold lowB
  rw [BitVec.getLsbD_ofNat, Nat.testBit_mod_two_pow]
  by_cases h : j < 256
  · simp [h, BitVec.getLsbD]
  · have : x.getLsbD j = false := BitVec.getLsbD_of_ge _ _ (by omega)
    simp [h, this]
theorem lowB_zero (x : BitVec 256) (i : Nat) (h : ∀ j, j < i → x.getLsbD j = false) : lowB x i = 0#256 := by
  apply BitVec.eq_of_getLsbD_eq
  intro j _
  rw [lowB_bit, BitVec.getLsbD_zero]
  by_cases hj : j < i
  · rw [h j hj]; simp
  · simp [hj]
theorem lowB_all (x : BitVec 256) (i : Nat) (h : ∀ j, i ≤ j → x.getLsbD j = false) : lowB x i = x := by
  apply BitVec.eq_of_getLsbD_eq
  intro j _
  rw [lowB_bit]
  by_cases hj : j < i
  · simp [hj]
  · rw [h j (by omega)]; simp

theorem part_set (x : BitVec 256) (i p : Nat) : part (lowB x (i + 1)) p = if p = i / 64 then part (lowB x i) p ||| ((if x.getLsbD i then 1#64 else 0#64) <<< (i % 64)) else part (lowB x i) p := by
  split
  · rename_i hp
    subst hp
    unfold part
    ext j hj
    simp only [BitVec.getElem_extractLsb', BitVec.getElem_or, lowB_bit, BitVec.getElem_shiftLeft]
    by_cases h1 : j = i % 64
    · have h2 : 64 * (i / 64) + j = i := by omega
      have h3 : ¬ (j < i % 64) := by omega
      have h4 : j - i % 64 = 0 := by omega
      simp only [h2, h4]
      cases hx : x.getLsbD i <;> simp [h3]
    · by_cases h2 : j < i % 64
      · have h3 : 64 * (i / 64) + j < i := by omega
        have h4 : 64 * (i / 64) + j < i + 1 := by omega
        simp [h2, h3, h4]
      · have h3 : ¬ 64 * (i / 64) + j < i := by omega
        have h4 : ¬ 64 * (i / 64) + j < i + 1 := by omega
        have h5 : j - i % 64 ≠ 0 := by omega
        cases hx : x.getLsbD i
        · simp [h3, h4]
        · simp only [h3, h4]
          simp
          intro _
          simp [h5]
  · rename_i hp
    unfold part
    ext j hj
    simp only [BitVec.getElem_extractLsb', lowB_bit]
    have : decide (64 * p + j < i + 1) = decide (64 * p + j < i) := by
      simp only [decide_eq_decide]; omega
    rw [this]

theorem set_four {l : List Int} {q : Nat} {v : Int} {f : Nat → Int} (hl : ∀ p, p < 4 → p ≠ q → l.getD p 0 = f p) (hq : q < 4) (hv : v = f q) (hlen : l.length = 4) : l.set q v = [f 0, f 1, f 2, f 3] := by
  match l, hlen with
  | [l0, l1, l2, l3], _ =>
    have h0 := hl 0 (by omega)
    have h1 := hl 1 (by omega)
    have h2 := hl 2 (by omega)
    have h3 := hl 3 (by omega)
    simp only [List.getD_cons_zero, List.getD_cons_succ] at h0 h1 h2 h3
    subst hv
    rcases q with _ | _ | _ | _ | q
    · simp [h1 (by omega), h2 (by omega), h3 (by omega)]
    · simp [h0 (by omega), h2 (by omega), h3 (by omega)]
    · simp [h0 (by omega), h1 (by omega), h3 (by omega)]
    · simp [h0 (by omega), h1 (by omega), h2 (by omega)]
    · omega

theorem set_bit (x : BitVec 256) (i : Nat) (hi : i < 256) : ([limb (lowB x i) 0, limb (lowB x i) 1, limb (lowB x i) 2, limb (lowB x i) 3].set (i / 64) (ior .u64 (limb (lowB x i) (i / 64)) (ishl .u64 (if x.getLsbD i then 1 else 0) ((i % 64 : Nat) : Int)))) =
    [limb (lowB x (i + 1)) 0, limb (lowB x (i + 1)) 1, limb (lowB x (i + 1)) 2, limb (lowB x (i + 1)) 3] := by
  refine set_four (f := fun p => limb (lowB x (i + 1)) p) ?_ (by omega) ?_ rfl
  · intro p hp hne
    have : limb (lowB x i) p = limb (lowB x (i + 1)) p := by rw [limb_part, limb_part, part_set x i p, if_neg hne]
    rcases p with _ | _ | _ | _ | p
    · exact this
    · exact this
    · exact this
    · exact this
    · omega
  · show _ = limb (lowB x (i + 1)) (i / 64)
    rw [limb_part, limb_part, part_set x i _, if_pos rfl]
    have : (if x.getLsbD i = true then (1 : Int) else 0) = ((if x.getLsbD i then 1#64 else 0#64 : BitVec 64).toNat : Int) := by split <;> rfl
    rw [this, ishl_bv _ _ (by omega), ior_bv]

def stepObs (c d : Bool) (i : Int) : List Bool := [c == true, true, true, decide (0 ≤ IntKind.i64.wrap (i.tdiv 64)) && decide (IntKind.i64.wrap (i.tdiv 64) < ((4 : Nat) : Int)), Nat.ble ((IntKind.i64.wrap (i.tdiv 64)).toNat + 1) 4, d, true, decide (0 ≤ IntKind.u64.wrap (i.tmod 64)),
  decide (0 ≤ IntKind.i64.wrap (i.tdiv 64)) && decide (IntKind.i64.wrap (i.tdiv 64) < ((4 : Nat) : Int)), Nat.ble ((IntKind.i64.wrap (i.tdiv 64)).toNat + 1) 4]
def stepV (a x : BitVec 256) (i j : Int) : AV := .ints .u64 4 ([limb x 0, limb x 1, limb x 2, limb x 3].set (IntKind.i64.wrap (i.tdiv 64)).toNat (ior .u64 (limb x (IntKind.i64.wrap (i.tdiv 64)).toNat) (ishl .u64 (ubit a j.toNat) (IntKind.u64.wrap (i.tmod 64)))))
theorem shl_step (a x : BitVec 256) (n : Nat) (i : Int) : stepX (X10 true) 100 fi_truceref01_Shl shPath [0, 1, 2, 4, 5, 6] 3 (shSt a n fi_truceref01_Shl.fn.ntmps i (.u x)) =
    some (stepObs (decide (i < 256)) (decide (0 ≤ IntKind.i64.wrap (i - IntKind.i64.wrap n)) && decide (IntKind.i64.wrap (i - IntKind.i64.wrap n) < 256)) i, .normal, shSt a n fi_truceref01_Shl.fn.ntmps (IntKind.i64.wrap (i + 1)) (stepV a x i (IntKind.i64.wrap (i - IntKind.i64.wrap n)))) := by kernel_rfl
theorem shr_step (a x : BitVec 256) (n : Nat) (i : Int) : stepX (X10 true) 100 fi_truceref01_Shr shPath [0, 1, 2, 4, 5, 6] 3 (shSt a n fi_truceref01_Shr.fn.ntmps i (.u x)) =
    some (stepObs (decide (IntKind.i64.wrap (i + IntKind.i64.wrap n) < 256)) (decide (0 ≤ IntKind.i64.wrap (i + IntKind.i64.wrap n)) && decide (IntKind.i64.wrap (i + IntKind.i64.wrap n) < 256)) i, .normal, shSt a n fi_truceref01_Shr.fn.ntmps (IntKind.i64.wrap (i + 1)) (stepV a x i (IntKind.i64.wrap (i + IntKind.i64.wrap n)))) := by kernel_rfl
def shEnd (a : BitVec 256) (n : Nat) (N : Nat) (i : Int) (o : AV) (l : List (Nat × AV)) (nk : Nat) : St := ⟨pat N 0 ([(0, .u a), (1, .int .u64 n), (2, .ptr 0 []), (4, .ptr 1 []), (5, .ptr 2 []), (6, .int .i64 i)] ++ l), [some ⟨24, .u a, true⟩, some ⟨24, .ints .u64 4 [0, 0, 0, 0], true⟩, some ⟨24, o, true⟩], nk⟩
noncomputable def shlEnd (a x : BitVec 256) (n : Nat) (i : Int) : St := shEnd a n fi_truceref01_Shl.fn.ntmps i (.u x) [(12, .int .i64 i), (13, .bool (decide (i < 256)))] 5
noncomputable def shrEnd (a x : BitVec 256) (n : Nat) (i : Int) : St := shEnd a n fi_truceref01_Shr.fn.ntmps i (.u x) [(10, .int .i64 i), (11, .int .u64 n), (12, .int .i64 (IntKind.i64.wrap n)), (13, .int .i64 (IntKind.i64.wrap (i + IntKind.i64.wrap n))), (14, .bool (decide (IntKind.i64.wrap (i + IntKind.i64.wrap n) < 256)))] 8
theorem shl_end (a x : BitVec 256) (n : Nat) (i : Int) : exec (X10 false) 100 fi_truceref01_Shl (0 :: shPath) 0 (loopAt fi_truceref01_Shl shPath) (shSt a n fi_truceref01_Shl.fn.ntmps i (.u x)) = some ([decide (i < 256) == false], .exit 0, 5, shlEnd a x n i) := by kernel_rfl
theorem shr_end (a x : BitVec 256) (n : Nat) (i : Int) : exec (X10 false) 100 fi_truceref01_Shr (0 :: shPath) 0 (loopAt fi_truceref01_Shr shPath) (shSt a n fi_truceref01_Shr.fn.ntmps i (.u x)) = some ([decide (IntKind.i64.wrap (i + IntKind.i64.wrap n) < 256) == false], .exit 0, 5, shrEnd a x n i) := by kernel_rfl

theorem shSim {a : BitVec 256} {n N : Nat} {i : Int} {l : List Int} {y : BitVec 256} (h : l = [limb y 0, limb y 1, limb y 2, limb y 3]) : Sim (shSt a n N i (.ints .u64 4 l)) (shSt a n N i (.u y)) :=
  Sim.of (SimS.refl _) ⟨⟨rfl, rfl, SimC.refl _⟩, ⟨rfl, rfl, SimC.refl _⟩, ⟨rfl, rfl, SimC.u4 h⟩, trivial⟩
theorem stepObs_ok {c d : Bool} {i : Nat} (hc : c = true) (hd : d = true) (hi : i < 256) : ∀ b ∈ stepObs c d (i : Int), b = true := by
  unfold stepObs
  rw [idx_i64 (by omega), rem_u64]
  intro b hb
  simp only [List.mem_cons, List.not_mem_nil, or_false] at hb
  have h3 : i / 64 < 4 := by omega
  rcases hb with rfl | rfl | rfl | rfl | rfl | rfl | rfl | rfl | rfl | rfl <;> first | rfl | exact hd | (simp [hc]; done) | (simp; omega)
theorem stepV_eq {a y : BitVec 256} {i j : Nat} (hi : i < 256) (hb : a.getLsbD j = y.getLsbD i) : stepV a (lowB y i) i j = .ints .u64 4 [limb (lowB y (i + 1)) 0, limb (lowB y (i + 1)) 1, limb (lowB y (i + 1)) 2, limb (lowB y (i + 1)) 3] := by
  unfold stepV ubit
  rw [idx_i64 (by omega), rem_u64]
  simp only [Int.toNat_natCast, hb]
  rw [set_bit y i hi]
theorem loop_sub {gi : FI Try.prog} {path : List Nat} {c : Code} (h : subC gi.body path = some (.loop c)) : subC gi.body path = some (.loop (loopAt gi path)) := by
  unfold loopAt; rw [h]

theorem shl_loop (a : BitVec 256) (n : Nat) (hn : n < 256) : CodeOK Try.prog (.loop (loopAt fi_truceref01_Shl shPath)) (shSt a n fi_truceref01_Shl.fn.ntmps n (.ints .u64 4 [0, 0, 0, 0])) (.exit 0) (shlEnd a (a <<< n) n 256) := by
  refine rounds_sim mixed (X10 true) (X10 false) 100 fi_truceref01_Shl shPath (fun j => shSt a n fi_truceref01_Shl.fn.ntmps ((n + j : Nat) : Int) (.u (lowB (a <<< n) (n + j)))) [0, 1, 2, 4, 5, 6] 3 (256 - n) (.exit 0) _ _ (loop_sub (c := loopAt fi_truceref01_Shl shPath) (by kernel_rfl)) ?_ (fun _ _ => Nat.le_refl 3) ?_ ?_ (by simp)
  · refine shSim ?_
    have : lowB (a <<< n) (n + 0) = 0#256 := lowB_zero _ _ (fun j hj => by rw [BitVec.getLsbD_shiftLeft]; simp; omega)
    rw [this]; exact zero_limbs
  · intro j hj
    have h1 : IntKind.i64.wrap (((n + j : Nat) : Int) + 1) = ((n + (j + 1) : Nat) : Int) := by rw [wrap_i64_id (by omega) (by omega)]; omega
    have h2 : IntKind.i64.wrap (((n + j : Nat) : Int) - IntKind.i64.wrap (n : Int)) = (j : Int) := by rw [wrap_i64_id (n := (n : Int)) (by omega) (by omega), wrap_i64_id (by omega) (by omega)]; omega
    refine ⟨_, _, shl_step a _ n _, stepObs_ok (by simp; omega) (by rw [h2]; simp; omega) (by omega), by kernel_rfl, ?_⟩
    rw [h1, h2, stepV_eq (by omega) (by rw [BitVec.getLsbD_shiftLeft, show n + j - n = j by omega]; simp; omega)]
    exact shSim rfl
  · have h1 : ((n + (256 - n) : Nat) : Int) = 256 := by omega
    have h2 : lowB (a <<< n) (n + (256 - n)) = a <<< n := lowB_all _ _ (fun j hj => BitVec.getLsbD_of_ge _ _ (by omega))
    simp only [h1, h2]
    exact ⟨_, _, shl_end a _ n _, by simp⟩
theorem shr_loop (a : BitVec 256) (n : Nat) (hn : n < 256) : CodeOK Try.prog (.loop (loopAt fi_truceref01_Shr shPath)) (shSt a n fi_truceref01_Shr.fn.ntmps 0 (.ints .u64 4 [0, 0, 0, 0])) (.exit 0) (shrEnd a (a >>> n) n ((256 - n : Nat) : Int)) := by
  refine rounds_sim mixed (X10 true) (X10 false) 100 fi_truceref01_Shr shPath (fun j => shSt a n fi_truceref01_Shr.fn.ntmps ((j : Nat) : Int) (.u (lowB (a >>> n) j))) [0, 1, 2, 4, 5, 6] 3 (256 - n) (.exit 0) _ _ (loop_sub (c := loopAt fi_truceref01_Shr shPath) (by kernel_rfl)) ?_ (fun _ _ => Nat.le_refl 3) ?_ ?_ (by simp)
  · refine shSim ?_
    have : lowB (a >>> n) 0 = 0#256 := lowB_zero _ _ (fun j hj => by omega)
    rw [this]; exact zero_limbs
  · intro j hj
    have h1 : IntKind.i64.wrap ((j : Int) + 1) = ((j + 1 : Nat) : Int) := by rw [wrap_i64_id (by omega) (by omega)]; omega
    have h2 : IntKind.i64.wrap ((j : Int) + IntKind.i64.wrap (n : Int)) = ((n + j : Nat) : Int) := by rw [wrap_i64_id (n := (n : Int)) (by omega) (by omega), wrap_i64_id (by omega) (by omega)]; omega
    refine ⟨_, _, shr_step a _ n _, stepObs_ok (by rw [h2]; simp; omega) (by rw [h2]; simp; omega) (by omega), by kernel_rfl, ?_⟩
    rw [h1, h2, stepV_eq (by omega) (by rw [BitVec.getLsbD_ushiftRight])]
    exact shSim rfl
  · have h2 : lowB (a >>> n) (256 - n) = a >>> n := lowB_all _ _ (fun j hj => by rw [BitVec.getLsbD_ushiftRight]; exact BitVec.getLsbD_of_ge _ _ (by omega))
    simp only [h2]
    refine ⟨_, _, shr_end a _ n _, ?_⟩
    rw [wrap_i64_id (n := (n : Int)) (by omega) (by omega), wrap_i64_id (by omega) (by omega)]
    simp; omega
noncomputable def shlLC (a : BitVec 256) (n : Nat) (hn : n < 256) : LC Try.prog := LC.of fi_truceref01_Shl shPath _ _ _ (loop_sub (c := loopAt fi_truceref01_Shl shPath) (by kernel_rfl)) (shl_loop a n hn)
noncomputable def shrLC (a : BitVec 256) (n : Nat) (hn : n < 256) : LC Try.prog := LC.of fi_truceref01_Shr shPath _ _ _ (loop_sub (c := loopAt fi_truceref01_Shr shPath) (by kernel_rfl)) (shr_loop a n hn)
noncomputable def X11 (f : Nat) (l : List (LC Try.prog)) : EnvX Try.prog := { cs := [], fis := [fi_truceref01_Shl, fi_truceref01_Shr], lcs := l, br := brL [(f, 2, false)] }
noncomputable def X12 (f : Nat) : EnvX Try.prog := { cs := [], fis := [fi_truceref01_Shl, fi_truceref01_Shr], lcs := [], br := brL [(f, 2, true)] }
theorem ref_Shl_run (a : BitVec 256) (n : Nat) (hn : n < 256) : (callX (X11 49 [shlLC a n hn]) (exec (X11 49 [shlLC a n hn]) 100) 49 [.u a, .int .u64 n] [] 0).map (fun r => (r.1, r.2.1)) =
    some ([decide ((n : Int) > 255) == false, a == a, (n : Int) == n, (n : Int) == IntKind.i64.wrap n, a == a, true, true], .u (a <<< n)) := by kernel_rfl
theorem ref_Shl_far (a : BitVec 256) (n : Nat) : (callX (X12 49) (exec (X12 49) 100) 49 [.u a, .int .u64 n] [] 0).map (fun r => (r.1, r.2.1)) = some ([decide ((n : Int) > 255) == true], .ints .u64 4 [0, 0, 0, 0]) := by kernel_rfl
theorem ref_Shl_ok (a : BitVec 256) (n : Nat) (_h : n < 18446744073709551616) : Pure Try.prog 49 [.u a, .int .u64 n] (.u (a <<< n)) := by
  by_cases hn : n < 256
  · have hw : IntKind.i64.wrap (n : Int) = n := wrap_i64_id (by omega) (by omega)
    exact Pure.by_run mixed _ 100 _ _ (ref_Shl_run a n hn) (by simp [hw]; omega) (SameV.u rfl).r
  · have h0 : a <<< n = 0#256 := BitVec.shiftLeft_eq_zero (by omega)
    exact Pure.by_run mixed _ 100 _ _ (ref_Shl_far a n) (by simp; omega) (SameV.u4 (by rw [h0]; exact zero_limbs)).r
noncomputable def c_ref_Shl : Ctr Try.prog := Ctr.un 49 (fun a n => .u (a <<< n)) ref_Shl_ok
theorem ref_Shr_run (a : BitVec 256) (n : Nat) (hn : n < 256) : (callX (X11 51 [shrLC a n hn]) (exec (X11 51 [shrLC a n hn]) 100) 51 [.u a, .int .u64 n] [] 0).map (fun r => (r.1, r.2.1)) =
    some ([decide ((n : Int) > 255) == false, a == a, (n : Int) == n, true, a == a, true, true], .u (a >>> n)) := by kernel_rfl
theorem ref_Shr_far (a : BitVec 256) (n : Nat) : (callX (X12 51) (exec (X12 51) 100) 51 [.u a, .int .u64 n] [] 0).map (fun r => (r.1, r.2.1)) = some ([decide ((n : Int) > 255) == true], .ints .u64 4 [0, 0, 0, 0]) := by kernel_rfl
theorem ref_Shr_ok (a : BitVec 256) (n : Nat) (_h : n < 18446744073709551616) : Pure Try.prog 51 [.u a, .int .u64 n] (.u (a >>> n)) := by
  by_cases hn : n < 256
  · have hw : IntKind.i64.wrap (n : Int) = n := wrap_i64_id (by omega) (by omega)
    exact Pure.by_run mixed _ 100 _ _ (ref_Shr_run a n hn) (by simp; omega) (SameV.u rfl).r
  · have h0 : a >>> n = 0#256 := BitVec.ushiftRight_eq_zero (by omega)
    exact Pure.by_run mixed _ 100 _ _ (ref_Shr_far a n) (by simp; omega) (SameV.u4 (by rw [h0]; exact zero_limbs)).r
noncomputable def c_ref_Shr : Ctr Try.prog := Ctr.un 51 (fun a n => .u (a >>> n)) ref_Shr_ok
end Go.Proofs.Ytakmgioeldbkcaa
