/- Texts of this claim, one behind the other. -/
import Derived.Test.YtakmgioeldbkcaaK6
import Derived.Test.YtakmgioeldbkcaaRows
import Derived.Shelf.Strings.Repeat

/- Contracts: modu.AddMod, MulMod. -/
namespace Go.Proofs.Ytakmgioeldbkcaa
open Go Go.RowKit
noncomputable def moX : EnvT Try.prog := { cs := [c_num_Of], fis := [fi_modu_one] }
theorem mone_tree : (callT (moX) (execT (moX) 100) 119 [] [] [] 0 []).map CR.v =
    (.need true
    (.leaf (.u (BitVec.ofNat 256 1)))) := by kernel_rfl
theorem mone_ok : Pure Try.prog 119 [] (.u 1#256) := Pure.by_tree mixed _ 100 _ _ mone_tree ⟨rfl, (SameV.u rfl).r⟩
noncomputable def c_mone : Ctr Try.prog := Ctr.z0 119 (.u 1#256) mone_ok
noncomputable def mdX : EnvT Try.prog := { cs := [c_mone, c_num_Of, c_num_Add, c_num_Sub, c_num_Cmp, c_num_Wide, c_num_Div, c_num_Rest, c_num_Mul, c_ref_Add, c_ref_Sub, c_ref_Wide, c_rdiv, c_rrest, c_ref_Mul, c_ref_Cmp], fis := [fi_modu_AddMod, fi_modu_MulMod, fi_truceref03_AddMod, fi_truceref03_MulMod] }
end Go.Proofs.Ytakmgioeldbkcaa

/- Contracts: AddMod, MulMod of modu and of the document. -/
namespace Go.Proofs.Ytakmgioeldbkcaa
open Go Go.RowKit
theorem addMod_tree (a b m : BitVec 256) : (callT (mdX) (execT (mdX) 100) 85 [.u a, .u b, .u m] [] [] 0 []).map CR.v =
    (.ite (!(uover a b))
     (.leaf (.u (remU (a + b) m)))
     (.leaf (.u (restU (BitVec.ofNat 256 1) (a + b) m)))) := by kernel_rfl
theorem mulMod_tree (a b m : BitVec 256) : (callT (mdX) (execT (mdX) 100) 84 [.u a, .u b, .u m] [] [] 0 []).map CR.v =
    (.leaf (.u (restU (wideHi a b) (a * b) m))) := by kernel_rfl
theorem raddMod_tree (a b m : BitVec 256) : (callT (mdX) (execT (mdX) 100) 87 [.u a, .u b, .u m] [] [] 0 []).map CR.v =
    (.ite (uover a b)
     (.need true
     (.leaf (.u (restU (ofLimbs (1 : Int) (0 : Int) (0 : Int) (0 : Int)) (a + b) m))))
     (.need true
     (.leaf (.u (restU (ofLimbs (0 : Int) (0 : Int) (0 : Int) (0 : Int)) (a + b) m))))) := by kernel_rfl
theorem rmulMod_tree (a b m : BitVec 256) : (callT (mdX) (execT (mdX) 100) 88 [.u a, .u b, .u m] [] [] 0 []).map CR.v =
    (.leaf (.u (restU (wideHi a b) (a * b) m))) := by kernel_rfl
theorem limbsOne : ofLimbs (1 : Int) (0 : Int) (0 : Int) (0 : Int) = 1#256 := by decide
theorem limbsZero : ofLimbs (0 : Int) (0 : Int) (0 : Int) (0 : Int) = 0#256 := by decide
/-- A sum, a product, what is left of it by m; 0, if m is 0. -/
def addm (a b m : BitVec 256) : BitVec 256 := BitVec.ofNat 256 (remD (a.toNat + b.toNat) m.toNat)
def mulm (a b m : BitVec 256) : BitVec 256 := BitVec.ofNat 256 (remD (a.toNat * b.toNat) m.toNat)
theorem mulm_eq (a b m : BitVec 256) : restU (wideHi a b) (a * b) m = mulm a b m := by
  have h1 := wide_hi_nat a b
  have h2 := BitVec.toNat_mul a b
  have h3 := Nat.mod_add_div (a.toNat * b.toNat) (2 ^ 256)
  unfold restU mulm
  rw [h1, h2, h3]
theorem addm_no {a b : BitVec 256} (h : uover a b = false) (m : BitVec 256) : remU (a + b) m = addm a b m := by
  have h' : a.toNat + b.toNat < 2 ^ 256 := by unfold uover at h; simp at h; omega
  unfold remU addm
  rw [BitVec.toNat_add, Nat.mod_eq_of_lt h']
theorem addm_over {a b : BitVec 256} (h : uover a b = true) (m : BitVec 256) : restU 1#256 (a + b) m = addm a b m := by
  have h' : 2 ^ 256 ≤ a.toNat + b.toNat := by unfold uover at h; simp at h; omega
  have ha := a.isLt
  have hb := b.isLt
  have e : (a + b).toNat + 2 ^ 256 * (1#256 : BitVec 256).toNat = a.toNat + b.toNat := by
    rw [BitVec.toNat_add, show (1#256 : BitVec 256).toNat = 1 from rfl, Nat.mul_one, Nat.mod_eq_sub_mod h', Nat.mod_eq_of_lt (by omega)]
    omega
  unfold restU addm
  rw [e]
theorem rest_zero (l m : BitVec 256) : restU 0#256 l m = remU l m := by
  unfold restU remU
  rw [show (0#256 : BitVec 256).toNat = 0 from rfl, Nat.mul_zero, Nat.add_zero]
theorem addMod_ok (a b m : BitVec 256) : Pure Try.prog 85 [.u a, .u b, .u m] (.u (addm a b m)) := by
  refine Pure.by_tree mixed _ 100 _ _ (addMod_tree a b m) ⟨fun h => ?_, fun h => ?_⟩
  · exact (SameV.u (addm_no (by simpa using h) m)).r
  · exact (SameV.u (addm_over (by simpa using h) m)).r
theorem raddMod_ok (a b m : BitVec 256) : Pure Try.prog 87 [.u a, .u b, .u m] (.u (addm a b m)) := by
  refine Pure.by_tree mixed _ 100 _ _ (raddMod_tree a b m) ⟨fun h => ⟨rfl, ?_⟩, fun h => ⟨rfl, ?_⟩⟩
  · rw [limbsOne]; exact (SameV.u (addm_over h m)).r
  · rw [limbsZero, rest_zero]; exact (SameV.u (addm_no h m)).r
theorem mulMod_ok (a b m : BitVec 256) : Pure Try.prog 84 [.u a, .u b, .u m] (.u (mulm a b m)) := Pure.by_tree mixed _ 100 _ _ (mulMod_tree a b m) (SameV.u (mulm_eq a b m)).r
theorem rmulMod_ok (a b m : BitVec 256) : Pure Try.prog 88 [.u a, .u b, .u m] (.u (mulm a b m)) := Pure.by_tree mixed _ 100 _ _ (rmulMod_tree a b m) (SameV.u (mulm_eq a b m)).r
noncomputable def c_addMod : Ctr Try.prog := Ctr.u3 85 (fun a b m => .u (addm a b m)) addMod_ok
noncomputable def c_mulMod : Ctr Try.prog := Ctr.u3 84 (fun a b m => .u (mulm a b m)) mulMod_ok
noncomputable def c_raddMod : Ctr Try.prog := Ctr.u3 87 (fun a b m => .u (addm a b m)) raddMod_ok
noncomputable def c_rmulMod : Ctr Try.prog := Ctr.u3 88 (fun a b m => .u (mulm a b m)) rmulMod_ok
end Go.Proofs.Ytakmgioeldbkcaa

/- Contracts of Go's library, as the kit has proved them, laid at this program's numbers. -/
namespace Go.Proofs.Ytakmgioeldbkcaa
open Go Go.Proofs Go.Shelf Go.RowKit
def layRepeat_ren : Go.Shelf.Ren := ⟨fun | 105 => 131 | 212 => 132 | 99 => 133 | 165 => 134 | 166 => 135 | 170 => 136 | 169 => 137 | 263 => 138 | 264 => 109 | 206 => 139 | 240 => 140 | 241 => 141 | 276 => 142 | 277 => 143 | n => n, fun | 9 => 9 | 3 => 3 | 4 => 4 | 20 => 20 | 0 => 0 | 46 => 59 | 109 => 109 | 5 => 5 | 72 => 114 | 76 => 118 | 51 => 53 | 146 => 121 | 53 => 22 | 148 => 64 | 70 => 112 | 37 => 69 | 75 => 117 | 127 => 123 | 164 => 124 | 80 => 120 | n => n, fun | n => n⟩
theorem layRepeat : Go.Proofs.Lays.n105 Try.prog layRepeat_ren := {
  mixed := by kernel_rfl,
  f99 := Try.func133.trans (congrArg some (by kernel_rfl)),
  f105 := Try.func131.trans (congrArg some (by kernel_rfl)),
  f165 := Try.func134.trans (congrArg some (by kernel_rfl)),
  f166 := Try.func135.trans (congrArg some (by kernel_rfl)),
  f169 := Try.func137.trans (congrArg some (by kernel_rfl)),
  f170 := Try.func136.trans (congrArg some (by kernel_rfl)),
  f206 := Try.func139.trans (congrArg some (by kernel_rfl)),
  f212 := Try.func132.trans (congrArg some (by kernel_rfl)),
  f240 := Try.func140.trans (congrArg some (by kernel_rfl)),
  f241 := Try.func141.trans (congrArg some (by kernel_rfl)),
  f263 := Try.func138.trans (congrArg some (by kernel_rfl)),
  f264 := Try.func109.trans (congrArg some (by kernel_rfl)),
  f276 := Try.func142.trans (congrArg some (by kernel_rfl)),
  f277 := Try.func143.trans (congrArg some (by kernel_rfl)),
  t0 := Try.underlying0,
  a0 := Try.isAgg0,
  z0 := Try.sizeOf0,
  v0 := Try.zeroValue0,
  t3 := Try.underlying3,
  a3 := Try.isAgg3,
  z3 := Try.sizeOf3,
  v3 := Try.zeroValue3,
  t4 := Try.underlying4,
  a4 := Try.isAgg4,
  z4 := Try.sizeOf4,
  v4 := Try.zeroValue4,
  t5 := Try.underlying5,
  a5 := Try.isAgg5,
  z5 := Try.sizeOf5,
  v5 := Try.zeroValue5,
  t9 := Try.underlying9,
  a9 := Try.isAgg9,
  z9 := Try.sizeOf9,
  v9 := Try.zeroValue9,
  t20 := Try.underlying20,
  a20 := Try.isAgg20,
  z20 := Try.sizeOf20,
  v20 := Try.zeroValue20,
  t37 := Try.underlying69,
  a37 := Try.isAgg69,
  z37 := Try.sizeOf69,
  v37 := Try.zeroValue69,
  t46 := Try.underlying59,
  a46 := Try.isAgg59,
  z46 := Try.sizeOf59,
  v46 := Try.zeroValue59,
  t51 := Try.underlying53,
  a51 := Try.isAgg53,
  z51 := Try.sizeOf53,
  v51 := Try.zeroValue53,
  t53 := Try.underlying22,
  a53 := Try.isAgg22,
  z53 := Try.sizeOf22,
  v53 := Try.zeroValue22,
  t70 := Try.underlying112,
  a70 := Try.isAgg112,
  z70 := Try.sizeOf112,
  v70 := Try.zeroValue112,
  t72 := Try.underlying114,
  a72 := Try.isAgg114,
  z72 := Try.sizeOf114,
  v72 := Try.zeroValue114,
  t75 := Try.underlying117,
  a75 := Try.isAgg117,
  z75 := Try.sizeOf117,
  v75 := Try.zeroValue117,
  t76 := Try.underlying118,
  a76 := Try.isAgg118,
  z76 := Try.sizeOf118,
  v76 := Try.zeroValue118,
  t109 := Try.underlying109,
  a109 := Try.isAgg109,
  z109 := Try.sizeOf109,
  v109 := Try.zeroValue109,
  t127 := Try.underlying123,
  a127 := Try.isAgg123,
  z127 := Try.sizeOf123,
  v127 := Try.zeroValue123,
  t146 := Try.underlying121,
  a146 := Try.isAgg121,
  z146 := Try.sizeOf121,
  v146 := Try.zeroValue121,
  t148 := Try.underlying64,
  a148 := Try.isAgg64,
  z148 := Try.sizeOf64,
  v148 := Try.zeroValue64,
  t164 := Try.underlying124,
  a164 := Try.isAgg124,
  z164 := Try.sizeOf124,
  v164 := Try.zeroValue124 }
end Go.Proofs.Ytakmgioeldbkcaa

/- Contracts: strings.Repeat; words of memory, and what they cost. -/
namespace Go.Proofs.Ytakmgioeldbkcaa
open Go Go.RowKit Go.Proofs Go.Shelf
theorem layRepeatX : Builder.Extra Try.prog layRepeat_ren := {
  sizeBuilder := by kernel_rfl,
  liesBuilder := by kernel_rfl,
  t5 := layRepeat.t5,
  a5 := layRepeat.a5,
  z5 := layRepeat.z5,
  v5 := layRepeat.v5,
  infoByte := by kernel_rfl,
  cellsByte := by kernel_rfl,
  sizeByte := by kernel_rfl,
  neB5 := by decide }
/-- So many times a text. -/
def repB (s : ByteArray) (n : Nat) : ByteArray := ⟨(Lib.repeatL s.data.toList n).toArray⟩
theorem repeat_ok (s : ByteArray) (n : Nat) (h : n ≤ 9223372036854775807) (hl : s.size * n ≤ 140737488355328) : Pure Try.prog 131 [.str s, .int .i64 n] (.str (repB s n)) := by
  intro xs w hx
  simp only [RV1s, RV1, RC] at hx
  obtain ⟨_, _, rfl', ⟨_, _, e2, rfl, rfl⟩, rfl⟩ := hx
  simp at rfl' e2
  subst rfl' e2
  refine .inr ⟨fi_strings_Repeat.hn _ _, (Any.strings_Repeat layRepeat layRepeatX s n w h hl).mono ?_⟩
  rintro e w' ⟨he, hw⟩
  exact ⟨_, he, by simp only [RV, RV1, RC, repB], hw⟩
noncomputable def c_repeat : Ctr Try.prog := Ctr.of 131 (fun | [.str s, .int .i64 c] => some ([decide (0 ≤ c), decide (c ≤ 9223372036854775807), decide (s.size * c.toNat ≤ 140737488355328)], .str (repB s c.toNat)) | _ => none) (by
  intro args ob v h hob
  split at h <;> simp only [Option.some.injEq, Prod.mk.injEq, reduceCtorEq] at h
  rename_i s c
  obtain ⟨rfl, rfl⟩ := h
  have h1 := of_decide_eq_true (hob (decide (0 ≤ c)) (by simp))
  have h2 := of_decide_eq_true (hob (decide (c ≤ 9223372036854775807)) (by simp))
  have h3 := of_decide_eq_true (hob (decide (s.size * c.toNat ≤ 140737488355328)) (by simp))
  obtain ⟨n, rfl⟩ := Int.eq_ofNat_of_zero_le h1
  rw [Int.toNat_natCast] at h3 ⊢
  exact repeat_ok s n (by omega) h3)
end Go.Proofs.Ytakmgioeldbkcaa

/- Contracts: words of memory, what they cost, zeros, a text put into a memory. -/
namespace Go.Proofs.Ytakmgioeldbkcaa
open Go Go.RowKit Go.Proofs Go.Shelf
noncomputable def words_X : EnvT Try.prog := { fis := [fi_mem_Words] }
theorem words_tree (n : Int) : (callT (words_X) (execT (words_X) 100) 66 [.int .i64 n] [] [] 0 []).map CR.v =
    (.ite (decide ((Int.tmod (if ((0 : Int) > n) then (0 : Int) else n) (32 : Int)) > (0 : Int)))
     (.leaf (.int .i64 (IntKind.wrap .i64 ((IntKind.wrap .i64 (Int.tdiv (if ((0 : Int) > n) then (0 : Int) else n) (32 : Int))) + (1 : Int)))))
     (.leaf (.int .i64 (IntKind.wrap .i64 (Int.tdiv (if ((0 : Int) > n) then (0 : Int) else n) (32 : Int)))))) := by kernel_rfl
noncomputable def cost_X : EnvT Try.prog := { fis := [fi_mem_Cost, fi_mem_Cost_1] }
theorem cost_tree (n : Int) : (callT (cost_X) (execT (cost_X) 100) 67 [.int .i64 n] [] [] 0 []).map CR.v =
    (.leaf (.int .i64 (IntKind.wrap .i64 ((IntKind.wrap .i64 ((3 : Int) * (if ((if ((65536 : Int) < n) then (65536 : Int) else n) > (0 : Int)) then (if ((65536 : Int) < n) then (65536 : Int) else n) else (0 : Int)))) + (IntKind.wrap .i64 (Int.tdiv (IntKind.wrap .i64 ((if ((if ((65536 : Int) < n) then (65536 : Int) else n) > (0 : Int)) then (if ((65536 : Int) < n) then (65536 : Int) else n) else (0 : Int)) * (if ((if ((65536 : Int) < n) then (65536 : Int) else n) > (0 : Int)) then (if ((65536 : Int) < n) then (65536 : Int) else n) else (0 : Int)))) (512 : Int))))))) := by kernel_rfl
noncomputable def zeros_X : EnvT Try.prog := { cs := [c_repeat], fis := [fi_mem_zeros] }
theorem zeros_tree (n : Int) : (callT (zeros_X) (execT (zeros_X) 100) 110 [.int .i64 n] [] [] 0 []).map CR.v =
    (.need (decide ((0 : Int) ≤ (if ((0 : Int) > n) then (0 : Int) else n)))
    (.need (decide ((if ((0 : Int) > n) then (0 : Int) else n) ≤ (9223372036854775807 : Int)))
    (.need (decide ((1 * (Int.toNat (if ((0 : Int) > n) then (0 : Int) else n))) ≤ 140737488355328))
    (.leaf (.str (repB (ByteArray.mk (List.toArray [(0 : UInt8)])) (Int.toNat (if ((0 : Int) > n) then (0 : Int) else n)))))))) := by kernel_rfl
noncomputable def put_X : EnvT Try.prog := { fis := [fi_mem_Put] }
theorem put_tree (m s : ByteArray) (a : Int) : (callT (put_X) (execT (put_X) 100) 68 [.str m, .int .i64 a, .str s] [] [] 0 []).map CR.v =
    (.ite (decide (a < (0 : Int)))
     (.leaf (.str m))
     (.ite (decide ((IntKind.wrap .i64 ((((ByteArray.size m) : Nat) : Int) - a)) < (((ByteArray.size s) : Nat) : Int)))
      (.leaf (.str m))
      (.need ((decide ((0 : Int) ≤ a)) && (decide (a ≤ (((ByteArray.size m) : Nat) : Int))))
      (.need (Nat.ble ((ByteArray.size (ByteArray.extract m 0 (Int.toNat a))) + (ByteArray.size s)) 9223372036854775807)
      (.need ((decide ((0 : Int) ≤ (IntKind.wrap .i64 (a + (((ByteArray.size s) : Nat) : Int))))) && (decide ((IntKind.wrap .i64 (a + (((ByteArray.size s) : Nat) : Int))) ≤ (((ByteArray.size m) : Nat) : Int))))
      (.need (Nat.ble ((ByteArray.size ((ByteArray.extract m 0 (Int.toNat a)) ++ s)) + (ByteArray.size (ByteArray.extract m (Int.toNat (IntKind.wrap .i64 (a + (((ByteArray.size s) : Nat) : Int)))) (ByteArray.size m)))) 9223372036854775807)
      (.leaf (.str (((ByteArray.extract m 0 (Int.toNat a)) ++ s) ++ (ByteArray.extract m (Int.toNat (IntKind.wrap .i64 (a + (((ByteArray.size s) : Nat) : Int)))) (ByteArray.size m))))))))))) := by kernel_rfl
/-- A text of bytes. -/
def mkB (l : List UInt8) : ByteArray := ⟨l.toArray⟩
def toL (s : ByteArray) : List UInt8 := s.data.toList
theorem mk_to (s : ByteArray) : mkB (toL s) = s := rfl
theorem to_mk (l : List UInt8) : toL (mkB l) = l := rfl
theorem toL_len (s : ByteArray) : (toL s).length = s.size := by
  show s.data.toList.length = s.data.size
  exact Array.length_toList
theorem mkB_size (l : List UInt8) : (mkB l).size = l.length := by rw [← toL_len]; rfl
theorem toL_append (s t : ByteArray) : toL (s ++ t) = toL s ++ toL t := by
  show (s ++ t).data.toList = _
  rw [ByteArray.data_append, Array.toList_append]; rfl
theorem toL_extract (s : ByteArray) (a b : Nat) : toL (s.extract a b) = ((toL s).drop a).take (b - a) := by
  show (s.extract a b).data.toList = _
  rw [ByteArray.data_extract, Array.toList_extract]; rfl
theorem toL_inj {s t : ByteArray} (h : toL s = toL t) : s = t := by rw [← mk_to s, ← mk_to t, h]
/-- So many zeros. -/
def zerosB (n : Nat) : ByteArray := mkB (List.replicate n 0)
theorem repB_zeros (n : Nat) : repB (ByteArray.mk (List.toArray [(0 : UInt8)])) n = zerosB n := by
  apply toL_inj
  have := Lib.repeatL_replicate 0 1 n
  simp only [List.replicate_one] at this
  show Lib.repeatL [0] n = _
  rw [this, Nat.mul_one]
  rfl
/-- Words. -/
def wordsN (n : Nat) : Nat := (n + 31) / 32
theorem words_ok (n : Int) (h : n ≤ 4611686018427387904) : Pure Try.prog 66 [.int .i64 n] (.int .i64 (wordsN n.toNat : Nat)) := by
  refine Pure.by_tree mixed _ 100 _ _ (words_tree n) ?_
  have e : (if (0 : Int) > n then (0 : Int) else n) = (n.toNat : Int) := by split <;> omega
  rw [e]
  have hk : n.toNat ≤ 4611686018427387904 := by omega
  generalize n.toNat = k at *
  have h1 : Int.tdiv (k : Int) 32 = ((k / 32 : Nat) : Int) := by rw [Int.tdiv_eq_ediv_of_nonneg (by omega)]; omega
  have h2 : Int.tmod (k : Int) 32 = ((k % 32 : Nat) : Int) := by rw [Int.tmod_eq_emod_of_nonneg (by omega)]; omega
  rw [h1, h2, wrap_i64_id (n := ((k / 32 : Nat) : Int)) (by omega) (by omega)]
  unfold wordsN
  refine ⟨fun hc => ?_, fun hc => ?_⟩
  · simp at hc
    rw [wrapi_one (by omega)]
    exact (SameV.int (by omega)).r
  · simp at hc
    exact (SameV.int (by omega)).r
def Ctr.i1 {P : Program} (f : Nat) (most : Int) (F : Int → AV) (ok : ∀ n, n ≤ most → Pure P f [.int .i64 n] (F n)) : Ctr P :=
  Ctr.of f (fun | [.int .i64 n] => some ([decide (n ≤ most)], F n) | _ => none) (by
    intro args ob v h hob
    split at h <;> simp only [Option.some.injEq, Prod.mk.injEq, reduceCtorEq] at h
    rename_i n
    obtain ⟨rfl, rfl⟩ := h
    exact ok n (of_decide_eq_true (hob (decide (n ≤ most)) (by simp))))
noncomputable def c_words : Ctr Try.prog := Ctr.i1 66 4611686018427387904 (fun n => .int .i64 (wordsN n.toNat : Nat)) words_ok
def costN (n : Nat) : Nat := 3 * min n 65536 + min n 65536 * min n 65536 / 512
theorem cost_ok (n : Int) : Pure Try.prog 67 [.int .i64 n] (.int .i64 (costN n.toNat : Nat)) := by
  refine Pure.by_tree mixed _ 100 _ _ (cost_tree n) ?_
  have e : (if ((if ((65536 : Int) < n) then (65536 : Int) else n) > (0 : Int)) then (if ((65536 : Int) < n) then (65536 : Int) else n) else (0 : Int)) = ((min n.toNat 65536 : Nat) : Int) := by
    split <;> split <;> omega
  rw [e]
  unfold costN
  have hk : min n.toNat 65536 ≤ 65536 := by omega
  generalize min n.toNat 65536 = k at *
  have hkk : k * k ≤ 65536 * 65536 := Nat.mul_le_mul hk hk
  have e1 : (3 : Int) * (k : Int) = ((3 * k : Nat) : Int) := by omega
  have e2 : (k : Int) * (k : Int) = ((k * k : Nat) : Int) := by simp
  have h1 : Int.tdiv ((k * k : Nat) : Int) 512 = ((k * k / 512 : Nat) : Int) := by rw [Int.tdiv_eq_ediv_of_nonneg (by omega)]; omega
  rw [e1, e2, wrap_i64_id (n := ((3 * k : Nat) : Int)) (by omega) (by omega), wrap_i64_id (n := ((k * k : Nat) : Int)) (by omega) (by omega), h1, wrap_i64_id (n := ((k * k / 512 : Nat) : Int)) (by omega) (by omega), wrapi_add (by omega)]
  exact (SameV.int rfl).r
noncomputable def c_cost : Ctr Try.prog := Ctr.i1 67 9223372036854775807 (fun n => .int .i64 (costN n.toNat : Nat)) (fun n _ => cost_ok n)
theorem zeros_ok (n : Int) (h : n ≤ 140737488355328) : Pure Try.prog 110 [.int .i64 n] (.str (zerosB n.toNat)) := by
  refine Pure.by_tree mixed _ 100 _ _ (zeros_tree n) ?_
  have e : (if (0 : Int) > n then (0 : Int) else n) = (n.toNat : Int) := by split <;> omega
  rw [e]
  refine ⟨by simp; omega, by simp; omega, by simp; omega, (SameV.str ?_).r⟩
  rw [Int.toNat_natCast, repB_zeros]
noncomputable def c_zeros : Ctr Try.prog := Ctr.i1 110 140737488355328 (fun n => .str (zerosB n.toNat)) zeros_ok
/-- A text in a memory. -/
def putB (m : ByteArray) (a : Int) (s : ByteArray) : ByteArray := if 0 ≤ a ∧ a + s.size ≤ m.size then mkB ((toL m).take a.toNat ++ toL s ++ (toL m).drop (a.toNat + s.size)) else m
theorem put_ok (m : ByteArray) (a : Int) (s : ByteArray) (h1 : m.size ≤ 4611686018427387904) (h2 : s.size ≤ 4611686018427387904) (h3 : a ≤ 4611686018427387904) : Pure Try.prog 68 [.str m, .int .i64 a, .str s] (.str (putB m a s)) := by
  refine Pure.by_tree mixed _ 100 _ _ (put_tree m s a) ?_
  unfold putB
  refine ⟨fun hc => ?_, fun hc => ?_⟩
  · have : a < 0 := by simpa using hc
    rw [if_neg (by omega)]
    exact (SameV.str rfl).r
  · have h0 : 0 ≤ a := by simpa using hc
    obtain ⟨k, rfl⟩ := Int.eq_ofNat_of_zero_le h0
    rw [wrap_i64_in (by omega) (by omega)]
    refine ⟨fun hc => ?_, fun hc => ?_⟩
    · simp at hc
      rw [if_neg (by omega)]
      exact (SameV.str rfl).r
    · simp at hc
      rw [if_pos (by omega), wrapi_add (by omega)]
      have l1 : (toL (m.extract 0 k)).length = k := by rw [toL_extract]; simp [toL_len]; omega
      have l1' : (m.extract 0 k).size = k := by rw [← toL_len, l1]
      have l2 : (m.extract (k + s.size) m.size).size = m.size - (k + s.size) := by rw [← toL_len, toL_extract]; simp [toL_len]
      have l3 : ((m.extract 0 k) ++ s).size = k + s.size := by rw [← toL_len, toL_append, List.length_append, l1, toL_len]
      simp only [toNat_c]
      refine ⟨by simp; omega, by simp; omega, by simp; omega, ?_, (SameV.str ?_).r⟩
      · rw [l3, l2]; simp; omega
      · apply toL_inj
        rw [toL_append, toL_append, toL_extract, toL_extract, to_mk, List.drop_zero, Nat.sub_zero]
        congr 1
        rw [List.take_of_length_le (by simp [toL_len])]
noncomputable def c_put : Ctr Try.prog := Ctr.of 68 (fun | [.str m, .int .i64 a, .str s] => some ([decide (m.size ≤ 4611686018427387904), decide (s.size ≤ 4611686018427387904), decide (a ≤ 4611686018427387904)], .str (putB m a s)) | _ => none) (by
  intro args ob v h hob
  split at h <;> simp only [Option.some.injEq, Prod.mk.injEq, reduceCtorEq] at h
  rename_i m a s
  obtain ⟨rfl, rfl⟩ := h
  exact put_ok m a s (of_decide_eq_true (hob (decide (m.size ≤ 4611686018427387904)) (by simp))) (of_decide_eq_true (hob (decide (s.size ≤ 4611686018427387904)) (by simp))) (of_decide_eq_true (hob (decide (a ≤ 4611686018427387904)) (by simp))))
end Go.Proofs.Ytakmgioeldbkcaa

/- Contracts: pieces of a text; a memory that grows. -/
namespace Go.Proofs.Ytakmgioeldbkcaa
open Go Go.RowKit Go.Proofs Go.Shelf
noncomputable def slice_X : EnvT Try.prog := { cs := [c_zeros, c_num_Of, c_num_Cmp], fis := [fi_mem_Slice] }

theorem slice_tree (s : ByteArray) (f : BitVec 256) (n : Int) : (callT (slice_X) (execT (slice_X) 100) 65 [.str s, .u f, .int .i64 n] [] [] 0 []).map CR.v =
    (.ite (decide (n < (0 : Int)))
     (.leaf (.str (ByteArray.mk (List.toArray []))))
     (.ite (decide (n > (65536 : Int)))
      (.leaf (.str (ByteArray.mk (List.toArray []))))
      (.need (inR (IntKind.wrap .u64 (((ByteArray.size s) : Nat) : Int)))
      (.ite (decide ((ucmp f (BitVec.ofNat 256 (Int.toNat (IntKind.wrap .u64 (((ByteArray.size s) : Nat) : Int))))) < (0 : Int)))
       (.need ((decide ((0 : Int) ≤ (IntKind.wrap .i64 (limb f 0)))) && (decide ((IntKind.wrap .i64 (limb f 0)) ≤ (((ByteArray.size s) : Nat) : Int))))
       (.need ((decide ((0 : Int) ≤ (if ((((ByteArray.size (ByteArray.extract s (Int.toNat (IntKind.wrap .i64 (limb f 0))) (ByteArray.size s))) : Nat) : Int) < n) then (((ByteArray.size (ByteArray.extract s (Int.toNat (IntKind.wrap .i64 (limb f 0))) (ByteArray.size s))) : Nat) : Int) else n))) && (decide ((if ((((ByteArray.size (ByteArray.extract s (Int.toNat (IntKind.wrap .i64 (limb f 0))) (ByteArray.size s))) : Nat) : Int) < n) then (((ByteArray.size (ByteArray.extract s (Int.toNat (IntKind.wrap .i64 (limb f 0))) (ByteArray.size s))) : Nat) : Int) else n) ≤ (((ByteArray.size (ByteArray.extract s (Int.toNat (IntKind.wrap .i64 (limb f 0))) (ByteArray.size s))) : Nat) : Int))))
       (.need (decide ((IntKind.wrap .i64 (n - (((ByteArray.size (ByteArray.extract (ByteArray.extract s (Int.toNat (IntKind.wrap .i64 (limb f 0))) (ByteArray.size s)) 0 (Int.toNat (if ((((ByteArray.size (ByteArray.extract s (Int.toNat (IntKind.wrap .i64 (limb f 0))) (ByteArray.size s))) : Nat) : Int) < n) then (((ByteArray.size (ByteArray.extract s (Int.toNat (IntKind.wrap .i64 (limb f 0))) (ByteArray.size s))) : Nat) : Int) else n)))) : Nat) : Int))) ≤ (140737488355328 : Int)))
       (.need (Nat.ble ((ByteArray.size (ByteArray.extract (ByteArray.extract s (Int.toNat (IntKind.wrap .i64 (limb f 0))) (ByteArray.size s)) 0 (Int.toNat (if ((((ByteArray.size (ByteArray.extract s (Int.toNat (IntKind.wrap .i64 (limb f 0))) (ByteArray.size s))) : Nat) : Int) < n) then (((ByteArray.size (ByteArray.extract s (Int.toNat (IntKind.wrap .i64 (limb f 0))) (ByteArray.size s))) : Nat) : Int) else n)))) + (ByteArray.size (zerosB (Int.toNat (IntKind.wrap .i64 (n - (((ByteArray.size (ByteArray.extract (ByteArray.extract s (Int.toNat (IntKind.wrap .i64 (limb f 0))) (ByteArray.size s)) 0 (Int.toNat (if ((((ByteArray.size (ByteArray.extract s (Int.toNat (IntKind.wrap .i64 (limb f 0))) (ByteArray.size s))) : Nat) : Int) < n) then (((ByteArray.size (ByteArray.extract s (Int.toNat (IntKind.wrap .i64 (limb f 0))) (ByteArray.size s))) : Nat) : Int) else n)))) : Nat) : Int))))))) 9223372036854775807)
       (.leaf (.str ((ByteArray.extract (ByteArray.extract s (Int.toNat (IntKind.wrap .i64 (limb f 0))) (ByteArray.size s)) 0 (Int.toNat (if ((((ByteArray.size (ByteArray.extract s (Int.toNat (IntKind.wrap .i64 (limb f 0))) (ByteArray.size s))) : Nat) : Int) < n) then (((ByteArray.size (ByteArray.extract s (Int.toNat (IntKind.wrap .i64 (limb f 0))) (ByteArray.size s))) : Nat) : Int) else n))) ++ (zerosB (Int.toNat (IntKind.wrap .i64 (n - (((ByteArray.size (ByteArray.extract (ByteArray.extract s (Int.toNat (IntKind.wrap .i64 (limb f 0))) (ByteArray.size s)) 0 (Int.toNat (if ((((ByteArray.size (ByteArray.extract s (Int.toNat (IntKind.wrap .i64 (limb f 0))) (ByteArray.size s))) : Nat) : Int) < n) then (((ByteArray.size (ByteArray.extract s (Int.toNat (IntKind.wrap .i64 (limb f 0))) (ByteArray.size s))) : Nat) : Int) else n)))) : Nat) : Int))))))))))))
       (.need ((decide ((0 : Int) ≤ (((ByteArray.size s) : Nat) : Int))) && (decide ((((ByteArray.size s) : Nat) : Int) ≤ (((ByteArray.size s) : Nat) : Int))))
       (.need ((decide ((0 : Int) ≤ (if ((((ByteArray.size (ByteArray.extract s (Int.toNat (((ByteArray.size s) : Nat) : Int)) (ByteArray.size s))) : Nat) : Int) < n) then (((ByteArray.size (ByteArray.extract s (Int.toNat (((ByteArray.size s) : Nat) : Int)) (ByteArray.size s))) : Nat) : Int) else n))) && (decide ((if ((((ByteArray.size (ByteArray.extract s (Int.toNat (((ByteArray.size s) : Nat) : Int)) (ByteArray.size s))) : Nat) : Int) < n) then (((ByteArray.size (ByteArray.extract s (Int.toNat (((ByteArray.size s) : Nat) : Int)) (ByteArray.size s))) : Nat) : Int) else n) ≤ (((ByteArray.size (ByteArray.extract s (Int.toNat (((ByteArray.size s) : Nat) : Int)) (ByteArray.size s))) : Nat) : Int))))
       (.need (decide ((IntKind.wrap .i64 (n - (((ByteArray.size (ByteArray.extract (ByteArray.extract s (Int.toNat (((ByteArray.size s) : Nat) : Int)) (ByteArray.size s)) 0 (Int.toNat (if ((((ByteArray.size (ByteArray.extract s (Int.toNat (((ByteArray.size s) : Nat) : Int)) (ByteArray.size s))) : Nat) : Int) < n) then (((ByteArray.size (ByteArray.extract s (Int.toNat (((ByteArray.size s) : Nat) : Int)) (ByteArray.size s))) : Nat) : Int) else n)))) : Nat) : Int))) ≤ (140737488355328 : Int)))
       (.need (Nat.ble ((ByteArray.size (ByteArray.extract (ByteArray.extract s (Int.toNat (((ByteArray.size s) : Nat) : Int)) (ByteArray.size s)) 0 (Int.toNat (if ((((ByteArray.size (ByteArray.extract s (Int.toNat (((ByteArray.size s) : Nat) : Int)) (ByteArray.size s))) : Nat) : Int) < n) then (((ByteArray.size (ByteArray.extract s (Int.toNat (((ByteArray.size s) : Nat) : Int)) (ByteArray.size s))) : Nat) : Int) else n)))) + (ByteArray.size (zerosB (Int.toNat (IntKind.wrap .i64 (n - (((ByteArray.size (ByteArray.extract (ByteArray.extract s (Int.toNat (((ByteArray.size s) : Nat) : Int)) (ByteArray.size s)) 0 (Int.toNat (if ((((ByteArray.size (ByteArray.extract s (Int.toNat (((ByteArray.size s) : Nat) : Int)) (ByteArray.size s))) : Nat) : Int) < n) then (((ByteArray.size (ByteArray.extract s (Int.toNat (((ByteArray.size s) : Nat) : Int)) (ByteArray.size s))) : Nat) : Int) else n)))) : Nat) : Int))))))) 9223372036854775807)
       (.leaf (.str ((ByteArray.extract (ByteArray.extract s (Int.toNat (((ByteArray.size s) : Nat) : Int)) (ByteArray.size s)) 0 (Int.toNat (if ((((ByteArray.size (ByteArray.extract s (Int.toNat (((ByteArray.size s) : Nat) : Int)) (ByteArray.size s))) : Nat) : Int) < n) then (((ByteArray.size (ByteArray.extract s (Int.toNat (((ByteArray.size s) : Nat) : Int)) (ByteArray.size s))) : Nat) : Int) else n))) ++ (zerosB (Int.toNat (IntKind.wrap .i64 (n - (((ByteArray.size (ByteArray.extract (ByteArray.extract s (Int.toNat (((ByteArray.size s) : Nat) : Int)) (ByteArray.size s)) 0 (Int.toNat (if ((((ByteArray.size (ByteArray.extract s (Int.toNat (((ByteArray.size s) : Nat) : Int)) (ByteArray.size s))) : Nat) : Int) < n) then (((ByteArray.size (ByteArray.extract s (Int.toNat (((ByteArray.size s) : Nat) : Int)) (ByteArray.size s))) : Nat) : Int) else n)))) : Nat) : Int)))))))))))))))) := by kernel_rfl
theorem ucmp_pos {a b : BitVec 256} : (decide (ucmp a b > (0 : Int))) = decide (b.toNat < a.toNat) := by
  rcases Nat.lt_trichotomy a.toNat b.toNat with h | h | h
  · rw [ucmp_lt h]; simp; omega
  · have : a = b := BitVec.eq_of_toNat_eq h
    subst this
    simp [ucmp]
  · rw [ucmp_gt h]; simp; omega
/-- Some bytes of a text from a place on, 0 behind its end. -/
def sliceL (l : List UInt8) (f n : Nat) : List UInt8 := ((l.drop f) ++ List.replicate n 0).take n
def sliceB (s : ByteArray) (f : BitVec 256) (n : Int) : ByteArray := if n < 0 ∨ n > 65536 then mkB [] else mkB (sliceL (toL s) f.toNat n.toNat)
theorem slice_tail (s : ByteArray) (k n : Nat) (hk : k ≤ s.size) (hn : n ≤ 65536) (M : Int) (hM : M = (if ((ByteArray.size (ByteArray.extract s k (ByteArray.size s)) : Nat) : Int) < (n : Int) then ((ByteArray.size (ByteArray.extract s k (ByteArray.size s)) : Nat) : Int) else (n : Int))) :
    M = ((min n (s.size - k) : Nat) : Int) ∧ (s.extract k s.size).size = s.size - k ∧ (ByteArray.extract (ByteArray.extract s k (ByteArray.size s)) 0 (Int.toNat M)).size = min n (s.size - k) ∧
    IntKind.wrap .i64 ((n : Int) - ((min n (s.size - k) : Nat) : Int)) = ((n - min n (s.size - k) : Nat) : Int) ∧
    (ByteArray.extract (ByteArray.extract s k (ByteArray.size s)) 0 (Int.toNat M)) ++ zerosB (n - min n (s.size - k)) = mkB (sliceL (toL s) k n) := by
  have l1 : (s.extract k s.size).size = s.size - k := by rw [← toL_len, toL_extract]; simp [toL_len]
  have e : M = ((min n (s.size - k) : Nat) : Int) := by rw [hM, l1]; split <;> omega
  have e2 : toL (ByteArray.extract (ByteArray.extract s k (ByteArray.size s)) 0 (Int.toNat M)) = ((toL s).drop k).take n := by
    rw [toL_extract, toL_extract, e, toNat_c, List.drop_zero, Nat.sub_zero, List.take_take]
    have : min (min n (s.size - k)) (s.size - k) = min n (s.size - k) := by omega
    rw [this]
    rcases Nat.le_total n (s.size - k) with h | h
    · rw [Nat.min_eq_left h]
    · rw [Nat.min_eq_right h, List.take_of_length_le (by simp [toL_len]), List.take_of_length_le (by simp [toL_len]; omega)]
  have e3 : (ByteArray.extract (ByteArray.extract s k (ByteArray.size s)) 0 (Int.toNat M)).size = min n (s.size - k) := by
    rw [← toL_len, e2]; simp [toL_len]
  refine ⟨e, l1, e3, wrapi_sub (by omega) (by omega), ?_⟩
  apply toL_inj
  rw [toL_append, e2, to_mk]
  unfold sliceL zerosB
  rw [to_mk, List.take_append, List.take_replicate]
  congr 2
  simp [toL_len]
  omega
theorem slice_ok (s : ByteArray) (f : BitVec 256) (n : Int) (hs : s.size ≤ 4611686018427387904) : Pure Try.prog 65 [.str s, .u f, .int .i64 n] (.str (sliceB s f n)) := by
  refine Pure.by_tree mixed _ 100 _ _ (slice_tree s f n) ?_
  unfold sliceB
  refine ⟨fun hc => ?_, fun hc => ⟨fun hc2 => ?_, fun hc2 => ?_⟩⟩
  · have : n < 0 := by simpa using hc
    rw [if_pos (.inl this)]; exact (SameV.str rfl).r
  · have : n > 65536 := by simpa using hc2
    rw [if_pos (.inr this)]; exact (SameV.str rfl).r
  · have h0 : 0 ≤ n := by simpa using hc
    obtain ⟨n, rfl⟩ := Int.eq_ofNat_of_zero_le h0
    have h1 : n ≤ 65536 := by have := hc2; simp at this; omega
    rw [if_neg (show ¬ ((n : Int) < 0 ∨ (n : Int) > 65536) by omega), toNat_c n, wrap_id (by omega)]
    have hu : (BitVec.ofNat 256 (Int.toNat ((s.size : Nat) : Int))).toNat = s.size := by rw [toNat_c, BitVec.toNat_ofNat]; omega
    refine ⟨inR_limb (by omega), fun hc => ?_, fun hc => ?_⟩
    · rw [ucmp_neg, hu] at hc
      have hf : f.toNat < s.size := by simpa using hc
      have hl : limb f 0 = ((f.toNat : Nat) : Int) := by unfold limb; simp; omega
      rw [hl, wrap_i64_id (n := ((f.toNat : Nat) : Int)) (by omega) (by omega)]
      simp only [toNat_c]
      obtain ⟨M, hM⟩ : ∃ M, M = (if ((ByteArray.size (ByteArray.extract s f.toNat (ByteArray.size s)) : Nat) : Int) < (n : Int) then ((ByteArray.size (ByteArray.extract s f.toNat (ByteArray.size s)) : Nat) : Int) else (n : Int)) := ⟨_, rfl⟩
      obtain ⟨a1, a2, a3, a4, a5⟩ := slice_tail s f.toNat n (by omega) h1 M hM
      rw [← hM, a3, a4, toNat_c, a5, a2]
      refine ⟨by simp; omega, by rw [a1]; simp; omega, by simp; omega, ?_, (SameV.str rfl).r⟩
      have := mkB_size (List.replicate (n - min n (s.size - f.toNat)) 0)
      unfold zerosB; rw [this, List.length_replicate]; simp; omega
    · rw [ucmp_neg, hu] at hc
      have hf : s.size ≤ f.toNat := by simpa using hc
      simp only [toNat_c]
      obtain ⟨M, hM⟩ : ∃ M, M = (if ((ByteArray.size (ByteArray.extract s s.size (ByteArray.size s)) : Nat) : Int) < (n : Int) then ((ByteArray.size (ByteArray.extract s s.size (ByteArray.size s)) : Nat) : Int) else (n : Int)) := ⟨_, rfl⟩
      obtain ⟨a1, a2, a3, a4, a5⟩ := slice_tail s s.size n (by omega) h1 M hM
      have a6 : sliceL (toL s) s.size n = sliceL (toL s) f.toNat n := by
        unfold sliceL
        rw [List.drop_of_length_le (by rw [toL_len]; omega), List.drop_of_length_le (by rw [toL_len]; omega)]
      rw [a6] at a5
      rw [← hM, a3, a4, toNat_c, a5, a2]
      refine ⟨by simp, by rw [a1]; simp, by simp; omega, ?_, (SameV.str rfl).r⟩
      have := mkB_size (List.replicate (n - min n (s.size - s.size)) 0)
      unfold zerosB; rw [this, List.length_replicate]; simp; omega
noncomputable def c_slice : Ctr Try.prog := Ctr.of 65 (fun | [.str s, .u f, .int .i64 n] => some ([decide (s.size ≤ 4611686018427387904)], .str (sliceB s f n)) | _ => none) (by
  intro args ob v h hob
  split at h <;> simp only [Option.some.injEq, Prod.mk.injEq, reduceCtorEq] at h
  rename_i s f n
  obtain ⟨rfl, rfl⟩ := h
  exact slice_ok s f n (of_decide_eq_true (hob (decide (s.size ≤ 4611686018427387904)) (by simp))))
noncomputable def grow_X : EnvT Try.prog := { cs := [c_zeros, c_words, c_cost, c_num_Of, c_num_Cmp, c_num_Add], fis := [fi_mem_Grow] }

theorem grow_tree (m : ByteArray) (a n : BitVec 256) : (callT (grow_X) (execT (grow_X) 100) 63 [.str m, .u a, .u n] [] [] 0 []).map CR.v =
    (.need true
    (.ite (n == (ofLimbs (0 : Int) (0 : Int) (0 : Int) (0 : Int)))
     (.leaf (.tup [(.str m), (.int .i64 (0 : Int)), (.int .i64 (0 : Int))]))
     (.ite (uover a n)
      (.leaf (.tup [(.str m), (.int .i64 (0 : Int)), (.int .i64 (3 : Int))]))
      (.need true
      (.ite (decide ((ucmp (a + n) (BitVec.ofNat 256 4096)) > (0 : Int)))
       (.leaf (.tup [(.str m), (.int .i64 (0 : Int)), (.int .i64 (3 : Int))]))
       (.need (decide ((IntKind.wrap .i64 (limb (a + n) 0)) ≤ (4611686018427387904 : Int)))
       (.ite (decide ((IntKind.wrap .i64 ((32 : Int) * (((wordsN (Int.toNat (IntKind.wrap .i64 (limb (a + n) 0)))) : Nat) : Int))) ≤ (((ByteArray.size m) : Nat) : Int)))
        (.leaf (.tup [(.str m), (.int .i64 (0 : Int)), (.int .i64 (0 : Int))]))
        (.need (decide ((IntKind.wrap .i64 ((IntKind.wrap .i64 ((32 : Int) * (((wordsN (Int.toNat (IntKind.wrap .i64 (limb (a + n) 0)))) : Nat) : Int))) - (((ByteArray.size m) : Nat) : Int))) ≤ (140737488355328 : Int)))
        (.need (Nat.ble ((ByteArray.size m) + (ByteArray.size (zerosB (Int.toNat (IntKind.wrap .i64 ((IntKind.wrap .i64 ((32 : Int) * (((wordsN (Int.toNat (IntKind.wrap .i64 (limb (a + n) 0)))) : Nat) : Int))) - (((ByteArray.size m) : Nat) : Int))))))) 9223372036854775807)
        (.need (decide ((((wordsN (Int.toNat (IntKind.wrap .i64 (limb (a + n) 0)))) : Nat) : Int) ≤ (9223372036854775807 : Int)))
        (.need (decide ((((ByteArray.size m) : Nat) : Int) ≤ (4611686018427387904 : Int)))
        (.need (decide ((((wordsN (Int.toNat (((ByteArray.size m) : Nat) : Int))) : Nat) : Int) ≤ (9223372036854775807 : Int)))
        (.leaf (.tup [(.str (m ++ (zerosB (Int.toNat (IntKind.wrap .i64 ((IntKind.wrap .i64 ((32 : Int) * (((wordsN (Int.toNat (IntKind.wrap .i64 (limb (a + n) 0)))) : Nat) : Int))) - (((ByteArray.size m) : Nat) : Int))))))), (.int .i64 (IntKind.wrap .i64 ((((costN (Int.toNat (((wordsN (Int.toNat (IntKind.wrap .i64 (limb (a + n) 0)))) : Nat) : Int))) : Nat) : Int) - (((costN (Int.toNat (((wordsN (Int.toNat (((ByteArray.size m) : Nat) : Int))) : Nat) : Int))) : Nat) : Int)))), (.int .i64 (0 : Int))])))))))))))))) := by kernel_rfl
/-- A memory that grows: itself; what it costs; whether it can. -/
def growB (m : ByteArray) (a n : BitVec 256) : AV :=
  if n.toNat = 0 then .tup [.str m, .int .i64 0, .int .i64 0]
  else if a.toNat + n.toNat > 4096 then .tup [.str m, .int .i64 0, .int .i64 3]
  else if 32 * wordsN (a.toNat + n.toNat) ≤ m.size then .tup [.str m, .int .i64 0, .int .i64 0]
  else .tup [.str (m ++ zerosB (32 * wordsN (a.toNat + n.toNat) - m.size)), .int .i64 (((costN (wordsN (a.toNat + n.toNat)) : Nat) : Int) - ((costN (wordsN m.size) : Nat) : Int)), .int .i64 0]
theorem costN_le (n : Nat) : costN n ≤ 8585216 := by
  unfold costN
  have hk : min n 65536 ≤ 65536 := by omega
  generalize min n 65536 = k at *
  have hkk : k * k ≤ 65536 * 65536 := Nat.mul_le_mul hk hk
  omega
theorem grow_ok (m : ByteArray) (a n : BitVec 256) (hm : m.size ≤ 4611686018427387904) : Pure Try.prog 63 [.str m, .u a, .u n] (growB m a n) := by
  refine Pure.by_tree mixed _ 100 _ _ (grow_tree m a n) ?_
  have ha := a.isLt
  have hn := n.isLt
  have hz : (n == ofLimbs (0 : Int) (0 : Int) (0 : Int) (0 : Int)) = decide (n.toNat = 0) := by
    rw [limbsZero, Bool.eq_iff_iff, beq_iff_eq, decide_eq_true_iff]
    constructor
    · rintro rfl; rfl
    · intro h; exact BitVec.eq_of_toNat_eq h
  unfold growB
  rw [hz]
  refine ⟨rfl, fun hc => ?_, fun hc => ?_⟩
  · rw [if_pos (of_decide_eq_true hc)]; exact SameR.tup3 (SameV.str rfl) (SameV.int rfl) (SameV.int rfl)
  · rw [if_neg (of_decide_eq_false hc)]
    have hc := of_decide_eq_false hc
    refine ⟨fun ho => ?_, fun ho => ⟨rfl, fun hg => ?_, fun hg => ?_⟩⟩
    · have ho : 2 ^ 256 ≤ a.toNat + n.toNat := by unfold uover at ho; simpa using ho
      rw [if_pos (by omega)]; exact SameR.tup3 (SameV.str rfl) (SameV.int rfl) (SameV.int rfl)
    · have ho : ¬ 2 ^ 256 ≤ a.toNat + n.toNat := by unfold uover at ho; simpa using ho
      have hs : (a + n).toNat = a.toNat + n.toNat := by rw [BitVec.toNat_add]; omega
      rw [ucmp_pos, hs, show (BitVec.ofNat 256 4096).toNat = 4096 from rfl] at hg
      rw [if_pos (by simpa using hg)]; exact SameR.tup3 (SameV.str rfl) (SameV.int rfl) (SameV.int rfl)
    · have ho : ¬ 2 ^ 256 ≤ a.toNat + n.toNat := by unfold uover at ho; simpa using ho
      have hs : (a + n).toNat = a.toNat + n.toNat := by rw [BitVec.toNat_add]; omega
      rw [ucmp_pos, hs, show (BitVec.ofNat 256 4096).toNat = 4096 from rfl] at hg
      have hg : a.toNat + n.toNat ≤ 4096 := by simpa using hg
      rw [if_neg (by omega)]
      have hl : limb (a + n) 0 = ((a.toNat + n.toNat : Nat) : Int) := by unfold limb; rw [hs]; simp; omega
      rw [hl, wrap_i64_id (n := ((a.toNat + n.toNat : Nat) : Int)) (by omega) (by omega)]
      simp only [toNat_c]
      have hw : wordsN (a.toNat + n.toNat) ≤ 128 := by unfold wordsN; omega
      generalize wordsN (a.toNat + n.toNat) = W at *
      have e1 : (32 : Int) * (W : Int) = ((32 * W : Nat) : Int) := by omega
      rw [e1, wrap_i64_id (n := ((32 * W : Nat) : Int)) (by omega) (by omega)]
      refine ⟨by simp; omega, fun hd => ?_, fun hd => ?_⟩
      · rw [if_pos (by simp at hd; omega)]; exact SameR.tup3 (SameV.str rfl) (SameV.int rfl) (SameV.int rfl)
      · have hd : m.size < 32 * W := by simp at hd; omega
        have c1 := costN_le W
        have c2 := costN_le (wordsN m.size)
        rw [if_neg (by omega), wrapi_sub (by omega) (by omega), toNat_c, wrap_i64_in (by omega) (by omega)]
        refine ⟨by simp; omega, ?_, by simp; omega, by simp; omega, by simp; unfold wordsN; omega, SameR.tup3 (SameV.str rfl) (SameV.int rfl) (SameV.int rfl)⟩
        have := mkB_size (List.replicate (32 * W - m.size) 0)
        unfold zerosB; rw [this, List.length_replicate]; simp; omega
def growM (m : ByteArray) (a n : BitVec 256) : ByteArray := if n.toNat = 0 ∨ a.toNat + n.toNat > 4096 ∨ 32 * wordsN (a.toNat + n.toNat) ≤ m.size then m else m ++ zerosB (32 * wordsN (a.toNat + n.toNat) - m.size)
def growC (m : ByteArray) (a n : BitVec 256) : Int := if n.toNat = 0 ∨ a.toNat + n.toNat > 4096 ∨ 32 * wordsN (a.toNat + n.toNat) ≤ m.size then 0 else ((costN (wordsN (a.toNat + n.toNat)) : Nat) : Int) - ((costN (wordsN m.size) : Nat) : Int)
def growE (a n : BitVec 256) : Int := if n.toNat = 0 then 0 else if a.toNat + n.toNat > 4096 then 3 else 0
theorem growB_eq (m : ByteArray) (a n : BitVec 256) : growB m a n = .tup [.str (growM m a n), .int .i64 (growC m a n), .int .i64 (growE a n)] := by
  unfold growB growM growC growE
  by_cases h1 : n.toNat = 0
  · simp [h1]
  · by_cases h2 : a.toNat + n.toNat > 4096
    · simp [h1, h2]
    · by_cases h3 : 32 * wordsN (a.toNat + n.toNat) ≤ m.size
      · simp [h1, h2, h3]
      · simp [h1, h2, h3]
noncomputable def c_grow : Ctr Try.prog := Ctr.of 63 (fun | [.str m, .u a, .u n] => some ([decide (m.size ≤ 4611686018427387904)], .tup [.str (growM m a n), .int .i64 (growC m a n), .int .i64 (growE a n)]) | _ => none) (by
  intro args ob v h hob
  split at h <;> simp only [Option.some.injEq, Prod.mk.injEq, reduceCtorEq] at h
  rename_i m a n
  obtain ⟨rfl, rfl⟩ := h
  rw [← growB_eq]
  exact grow_ok m a n (of_decide_eq_true (hob (decide (m.size ≤ 4611686018427387904)) (by simp))))
noncomputable def memX : EnvT Try.prog := { cs := [c_words, c_cost, c_put, c_slice, c_grow, c_num_Of], fis := [fi_trucelaw12_awake, fi_trucelaw12_MemWords, fi_trucelaw12_MemCosts, fi_trucelaw12_MemSlices, fi_trucelaw12_MemBack] }
end Go.Proofs.Ytakmgioeldbkcaa

/- Contracts: chapter 12's examples. -/
namespace Go.Proofs.Ytakmgioeldbkcaa
open Go Go.RowKit Go.Proofs Go.Shelf

theorem awake12_tree  : (callT (memX) (execT (memX) 100) 64 [] [] [] 0 []).map CR.v =
    (.need true
    (.need true
    (.need true
    (.ite true
     (.ite true
      (.ite true
       (.need true
       (.need true
       (.leaf (.bool true))))
       (.leaf (.bool false)))
      (.leaf (.bool false)))
     (.leaf (.bool false)))))) := by kernel_rfl

theorem awake12_ok : Pure Try.prog 64 [] (.bool true) := Pure.by_tree mixed _ 100 _ _ awake12_tree (by
  simp only [T.holds, true_and, forall_const, reduceCtorEq, false_implies, and_true, implies_true]
  exact (SameV.bool rfl).r)
noncomputable def c_awake12 : Ctr Try.prog := Ctr.z0 64 (.bool true) awake12_ok
noncomputable def lawX12 : EnvT Try.prog := { memX with cs := c_awake12 :: memX.cs }
end Go.Proofs.Ytakmgioeldbkcaa

/- MemBack's loop. -/
namespace Go.Proofs.Ytakmgioeldbkcaa
open Go Go.RowKit
noncomputable def mb_st (m s x : ByteArray) (a : Nat) (i : Int) : KS := ⟨⟨pat' [(0, (.str m)), (1, (.int .u16 (a : Int))), (2, (.str s)), (7, (.str x)), (50, (.int .i64 (x.size : Nat))), (51, (.int .i64 i))] 0 78, [], 0⟩, kpat [] 0 78, []⟩
theorem mb_body (m : ByteArray) (s : ByteArray) (x : ByteArray) (a : Nat) (i : Int) : stepT lawX12 100 fi_trucelaw12_MemBack [0, 1, 0, 1, 1, 1, 1] [0, 1, 2, 7, 50, 51] 0 (kpat [] 0 78) [] (mb_st m s x a i) =
    (.ite (decide (i < (((ByteArray.size x) : Nat) : Int)))
     (.ite (decide (i < (IntKind.wrap .i64 ((a : Nat) : Int))))
      (.need ((decide ((0 : Int) ≤ i)) && (decide (i < (((ByteArray.size x) : Nat) : Int))))
      (.need ((decide ((0 : Int) ≤ i)) && (decide (i < (((ByteArray.size m) : Nat) : Int))))
      (.ite ((byteAt x (Int.toNat i)) != (byteAt m (Int.toNat i)))
       (.leaf (.ret, mb_st m s x a i))
       (.leaf (.normal, mb_st m s x a (IntKind.wrap .i64 (i + (1 : Int))))))))
      (.ite (decide (i ≥ (IntKind.wrap .i64 ((IntKind.wrap .i64 ((a : Nat) : Int)) + (((ByteArray.size s) : Nat) : Int)))))
       (.need ((decide ((0 : Int) ≤ i)) && (decide (i < (((ByteArray.size x) : Nat) : Int))))
       (.need ((decide ((0 : Int) ≤ i)) && (decide (i < (((ByteArray.size m) : Nat) : Int))))
       (.ite ((byteAt x (Int.toNat i)) != (byteAt m (Int.toNat i)))
        (.leaf (.ret, mb_st m s x a i))
        (.leaf (.normal, mb_st m s x a (IntKind.wrap .i64 (i + (1 : Int))))))))
       (.leaf (.normal, mb_st m s x a (IntKind.wrap .i64 (i + (1 : Int)))))))
     (.leaf ((.exit 0), mb_st m s x a i))) := by kernel_rfl

theorem mb_rule {σ : Type} (st : σ → KS) (Inv : σ → Prop) (μ : σ → Nat) (R : Ex → St → Prop) (hH : ∀ v, (st v).s.H.length ≤ 0) (hstep : ∀ v, Inv v → ∃ X : EnvT Try.prog, (stepT X 100 fi_trucelaw12_MemBack [0, 1, 0, 1, 1, 1, 1] [0, 1, 2, 7, 50, 51] 0 (kpat [] 0 78) [] (st v)).holds (Round st Inv μ R v)) (v0 : σ) (h0 : Inv v0) : CodeR Try.prog (.loop (loopAt fi_trucelaw12_MemBack [0, 1, 0, 1, 1, 1, 1])) (st v0).s R :=
  loop_rule mixed fi_trucelaw12_MemBack [0, 1, 0, 1, 1, 1, 1] [0, 1, 2, 7, 50, 51] 0 (kpat [] 0 78) [] st 100 Inv μ R (loop_sub' (c := loopAt fi_trucelaw12_MemBack [0, 1, 0, 1, 1, 1, 1]) (by kernel_rfl)) hH hstep v0 h0
theorem mbSub : subC fi_trucelaw12_MemBack.body [0, 1, 0, 1, 1, 1, 1] = some (.loop (loopAt fi_trucelaw12_MemBack [0, 1, 0, 1, 1, 1, 1])) := loop_sub' (c := loopAt fi_trucelaw12_MemBack [0, 1, 0, 1, 1, 1, 1]) (by kernel_rfl)
theorem mb_loop (m s x : ByteArray) (a : Nat) (hx : x.size = m.size) (hm : m.size ≤ 10000) (hs : s.size ≤ 10000) (ha : a < 65536) (hb : ∀ j, j < a ∨ a + s.size ≤ j → byteAt x j = byteAt m j) :
    CodeR Try.prog (.loop (loopAt fi_trucelaw12_MemBack [0, 1, 0, 1, 1, 1, 1])) (mb_st m s x a 0).s (fun e s' => e = .exit 0 ∧ s' = (mb_st m s x a (x.size : Nat)).s) := by
  refine mb_rule (σ := Nat) (fun i => mb_st m s x a (i : Nat)) (fun i => i ≤ x.size) (fun i => x.size - i) _ (fun _ => Nat.le_refl 0) ?_ 0 (by omega)
  intro i hi
  refine ⟨lawX12, ?_⟩
  rw [mb_body, wrap_i64_id (n := (a : Int)) (by omega) (by omega), wrapi_add (by omega), wrapi_one (by omega)]
  simp only [toNat_c]
  have next : Round (fun i : Nat => mb_st m s x a (i : Nat)) (fun i => i ≤ x.size) (fun i => x.size - i) (fun e s' => e = .exit 0 ∧ s' = (mb_st m s x a (x.size : Nat)).s) i (.normal, mb_st m s x a ((i + 1 : Nat) : Int)) ∨ x.size ≤ i := by
    by_cases h : x.size ≤ i
    · exact .inr h
    · exact .inl ⟨i + 1, by omega, by dsimp only; omega, Sim.refl _⟩
  refine ⟨fun hc => ?_, fun hc => ?_⟩
  · have hi : i < x.size := by simpa using hc
    have next := next.resolve_right (by omega)
    refine ⟨fun h1 => ⟨by simp; omega, by simp; omega, fun h2 => ?_, fun _ => next⟩, fun h1 => ⟨fun h3 => ⟨by simp; omega, by simp; omega, fun h2 => ?_, fun _ => next⟩, fun _ => next⟩⟩
    · rw [hb i (.inl (by simp at h1; omega))] at h2; simp at h2
    · rw [hb i (.inr (by simp at h3; omega))] at h2; simp at h2
  · have hi : i = x.size := by simp at hc; omega
    subst hi
    exact ⟨rfl, rfl⟩
noncomputable def mbLC (m s x : ByteArray) (a : Nat) (hx : x.size = m.size) (hm : m.size ≤ 10000) (hs : s.size ≤ 10000) (ha : a < 65536) (hb : ∀ j, j < a ∨ a + s.size ≤ j → byteAt x j = byteAt m j) : LCT Try.prog :=
  LCT.one fi_trucelaw12_MemBack [0, 1, 0, 1, 1, 1, 1] _ _ (mb_st m s x a (x.size : Nat)) mbSub (mb_loop m s x a hx hm hs ha hb)
noncomputable def mbX (m s x : ByteArray) (a : Nat) (hx : x.size = m.size) (hm : m.size ≤ 10000) (hs : s.size ≤ 10000) (ha : a < 65536) (hb : ∀ j, j < a ∨ a + s.size ≤ j → byteAt x j = byteAt m j) : EnvT Try.prog := { lawX12 with lcs := [mbLC m s x a hx hm hs ha hb] }
noncomputable def mbX0 : EnvT Try.prog := { lawX12 with lcs := [LCT.bad 17 [0, 1, 0, 1, 1, 1, 1]] }
end Go.Proofs.Ytakmgioeldbkcaa

