/- Texts of this claim, one behind the other. -/
import Derived.Test.YtglcjmnkhmdlhaaKB
import Derived.Test.YtglcjmnkhmdlhaaRows
import Derived.Shelf.Strings.Builder1
import Derived.Test.YtglcjmnkhmdlhaaK4
import Derived.Test.YtglcjmnkhmdlhaaK3
import Derived.Test.YtglcjmnkhmdlhaaK5

/- Contracts of Go's library, as the kit has proved them, laid at this program's numbers. -/
namespace Go.Proofs.Ytglcjmnkhmdlhaa
open Go Go.Proofs Go.Shelf Go.RowKit
def layWriteByte_ren : Go.Shelf.Ren := ⟨fun | 167 => 62 | 240 => 80 | 276 => 88 | n => n, fun | 70 => 82 | 5 => 5 | 75 => 87 | 0 => 0 | 72 => 85 | 37 => 83 | 4 => 4 | 164 => 114 | 80 => 89 | 9 => 9 | n => n, fun | n => n⟩
theorem layWriteByte : Go.Proofs.Lays.n167 Try.prog layWriteByte_ren := {
  mixed := by kernel_rfl,
  f167 := Try.func62.trans (congrArg some (by kernel_rfl)),
  f240 := Try.func80.trans (congrArg some (by kernel_rfl)),
  f276 := Try.func88.trans (congrArg some (by kernel_rfl)),
  t0 := Try.underlying0,
  a0 := Try.isAgg0,
  z0 := Try.sizeOf0,
  v0 := Try.zeroValue0,
  t4 := Try.underlying4,
  a4 := Try.isAgg4,
  z4 := Try.sizeOf4,
  v4 := Try.zeroValue4,
  t5 := Try.underlying5,
  a5 := Try.isAgg5,
  z5 := Try.sizeOf5,
  v5 := Try.zeroValue5,
  t9 := Try.underlying9,
  a9 := Try.isAgg9,
  z9 := Try.sizeOf9,
  v9 := Try.zeroValue9,
  t20 := Try.underlying20,
  a20 := Try.isAgg20,
  z20 := Try.sizeOf20,
  v20 := Try.zeroValue20,
  t37 := Try.underlying83,
  a37 := Try.isAgg83,
  z37 := Try.sizeOf83,
  v37 := Try.zeroValue83,
  t70 := Try.underlying82,
  a70 := Try.isAgg82,
  z70 := Try.sizeOf82,
  v70 := Try.zeroValue82,
  t72 := Try.underlying85,
  a72 := Try.isAgg85,
  z72 := Try.sizeOf85,
  v72 := Try.zeroValue85,
  t75 := Try.underlying87,
  a75 := Try.isAgg87,
  z75 := Try.sizeOf87,
  v75 := Try.zeroValue87,
  t164 := Try.underlying114,
  a164 := Try.isAgg114,
  z164 := Try.sizeOf114,
  v164 := Try.zeroValue114 }
def layBString_ren : Go.Shelf.Ren := ⟨fun | 169 => 63 | n => n, fun | 70 => 82 | 9 => 9 | 0 => 0 | 72 => 85 | 37 => 83 | 127 => 101 | 3 => 3 | 5 => 5 | n => n, fun | n => n⟩
theorem layBString : Go.Proofs.Lays.n169 Try.prog layBString_ren := {
  mixed := by kernel_rfl,
  f169 := Try.func63.trans (congrArg some (by kernel_rfl)),
  t0 := Try.underlying0,
  a0 := Try.isAgg0,
  z0 := Try.sizeOf0,
  v0 := Try.zeroValue0,
  t3 := Try.underlying3,
  a3 := Try.isAgg3,
  z3 := Try.sizeOf3,
  v3 := Try.zeroValue3,
  t9 := Try.underlying9,
  a9 := Try.isAgg9,
  z9 := Try.sizeOf9,
  v9 := Try.zeroValue9,
  t37 := Try.underlying83,
  a37 := Try.isAgg83,
  z37 := Try.sizeOf83,
  v37 := Try.zeroValue83,
  t70 := Try.underlying82,
  a70 := Try.isAgg82,
  z70 := Try.sizeOf82,
  v70 := Try.zeroValue82,
  t72 := Try.underlying85,
  a72 := Try.isAgg85,
  z72 := Try.sizeOf85,
  v72 := Try.zeroValue85,
  t127 := Try.underlying101,
  a127 := Try.isAgg101,
  z127 := Try.sizeOf101,
  v127 := Try.zeroValue101 }
end Go.Proofs.Ytglcjmnkhmdlhaa

/- strings.Builder, as the run takes it. -/
namespace Go.Proofs.Ytglcjmnkhmdlhaa
open Go Go.RowKit Go.Proofs Go.Shelf
theorem wbX : Builder.Extra Try.prog layWriteByte_ren := {
  sizeBuilder := by kernel_rfl,
  liesBuilder := by kernel_rfl,
  t5 := layWriteByte.t5,
  a5 := layWriteByte.a5,
  z5 := layWriteByte.z5,
  v5 := layWriteByte.v5,
  infoByte := by kernel_rfl,
  cellsByte := by kernel_rfl,
  sizeByte := by kernel_rfl,
  neB5 := by decide }
theorem boX : Builder.Extra Try.prog layBString_ren := {
  sizeBuilder := by kernel_rfl,
  liesBuilder := by kernel_rfl,
  t5 := layWriteByte.t5,
  a5 := layWriteByte.a5,
  z5 := layWriteByte.z5,
  v5 := layWriteByte.v5,
  infoByte := by kernel_rfl,
  cellsByte := by kernel_rfl,
  sizeByte := by kernel_rfl,
  neB5 := by decide }
noncomputable def bldD : Bld Try.prog where
  T := 85
  e := 5
  fB := 62
  fS := 0
  fO := 63
  okS := false
  hB := fi_strings_Builder_WriteByte.hn
  hS := fun h => absurd h (by decide)
  hO := fi_strings_Builder_String.hn
  wB := fun b bs c w h hl hb => (Any.Builder_WriteByte layWriteByte wbX b b bs c w h hl hb).mono (by
    rintro e w' ⟨rfl, h1, h2⟩
    exact ⟨⟨_, rfl⟩, .inr h1, h2⟩)
  wS := fun h => absurd h (by decide)
  wO := fun b l w h hb => (Any.Builder_String_any layBString boX b b l w h hb).mono (by
    rintro e w' ⟨rfl, h2⟩
    exact ⟨rfl, h2⟩)
theorem bldD_zero : (zeroValue bldD.T).run Try.prog = fun w => .ok (.agg #[.pointer none, .slice none 0 0]) w := funext fun w => layBString.v72 w
end Go.Proofs.Ytglcjmnkhmdlhaa

/- Contracts: hash.turn. -/
namespace Go.Proofs.Ytglcjmnkhmdlhaa
open Go Go.RowKit
/-- Bits turned around. -/
def rotP (x n : Int) : Int := ior .u64 (ishl .u64 x n) (ishr .u64 (ishr .u64 x (1 : Int)) (IntKind.wrap .u64 ((63 : Int) - n)))
noncomputable def turnX : EnvT Try.prog := { fis := [fi_hash_turn] }
theorem turn_tree (x n : Int) : (callT (turnX) (execT (turnX) 100) 87 [.int .u64 x, .int .u64 n] [] [] 0 []).map CR.v =
    (.need (decide ((0 : Int) ≤ n))
    (.need (decide ((0 : Int) ≤ (IntKind.wrap .u64 ((63 : Int) - n))))
    (.leaf (.int .u64 (ior .u64 (ishl .u64 x n) (ishr .u64 (ishr .u64 x (1 : Int)) (IntKind.wrap .u64 ((63 : Int) - n)))))))) := by kernel_rfl
theorem turn_ok (x n : Int) (h : 0 ≤ n) : Pure Try.prog 87 [.int .u64 x, .int .u64 n] (.int .u64 (rotP x n)) := by
  refine Pure.by_tree mixed turnX 100 _ _ (turn_tree x n) ⟨decide_eq_true h, decide_eq_true ?_, (SameV.int rfl).r⟩
  simp [IntKind.wrap, IntKind.signed, IntKind.bits]
  omega
noncomputable def c_turn : Ctr Try.prog := Ctr.of 87 (fun | [.int .u64 x, .int .u64 n] => some ([decide (0 ≤ n)], .int .u64 (rotP x n)) | _ => none) (by
  intro args ob v h hob
  split at h <;> simp only [Option.some.injEq, Prod.mk.injEq, reduceCtorEq] at h
  obtain ⟨rfl, rfl⟩ := h
  exact turn_ok _ _ (of_decide_eq_true (hob _ (by simp))))
noncomputable def hX1 : EnvT Try.prog := { cs := [c_turn], fis := [fi_hash_lanes_mixed, fi_hash_lanes_moved, fi_hash_lanes_folded] }
end Go.Proofs.Ytglcjmnkhmdlhaa

/- Contracts: hash: the parts of a round. -/
namespace Go.Proofs.Ytglcjmnkhmdlhaa
open Go Go.RowKit
/-- 25 numbers. -/
def lst25 (f : Nat → Int) : List Int := [f 0, f 1, f 2, f 3, f 4, f 5, f 6, f 7, f 8, f 9, f 10, f 11, f 12, f 13, f 14, f 15, f 16, f 17, f 18, f 19, f 20, f 21, f 22, f 23, f 24]
def nthI : List Int → Nat → Int
  | [], _ => 0
  | x :: _, 0 => x
  | _ :: l, i + 1 => nthI l i
theorem lst25_nth (l : List Int) (h : l.length = 25) : lst25 (nthI l) = l := by
  match l, h with
  | [x0, x1, x2, x3, x4, x5, x6, x7, x8, x9, x10, x11, x12, x13, x14, x15, x16, x17, x18, x19, x20, x21, x22, x23, x24], _ => rfl
def colF (g : Nat → Int) (x : Nat) : Int := ixor .u64 (ixor .u64 (ixor .u64 (ixor .u64 (ixor .u64 (0 : Int) (g x)) (g (x + 5))) (g (x + 10))) (g (x + 15))) (g (x + 20))
def mixF (g : Nat → Int) (i : Nat) : Int := ixor .u64 (g i) (ixor .u64 (colF g ((i + 4) % 5)) (rotP (colF g ((i + 1) % 5)) (1 : Int)))
def folF (g : Nat → Int) (i : Nat) : Int := ixor .u64 (g i) (iand .u64 (ixor .u64 (18446744073709551615 : Int) (g (i - i % 5 + (i + 1) % 5))) (g (i - i % 5 + (i + 2) % 5)))
def mixL (g : Nat → Int) : List Int := lst25 (mixF g)
def movL (g : Nat → Int) : List Int := [g 0, rotP (g 6) 44, rotP (g 12) 43, rotP (g 18) 21, rotP (g 24) 14, rotP (g 3) 28, rotP (g 9) 20, rotP (g 10) 3, rotP (g 16) 45, rotP (g 22) 61, rotP (g 1) 1, rotP (g 7) 6, rotP (g 13) 25, rotP (g 19) 8, rotP (g 20) 18, rotP (g 4) 27, rotP (g 5) 36, rotP (g 11) 10, rotP (g 17) 15, rotP (g 23) 56, rotP (g 2) 62, rotP (g 8) 55, rotP (g 14) 39, rotP (g 15) 41, rotP (g 21) 2]
def folL (g : Nat → Int) : List Int := lst25 (folF g)
theorem mix_tree (g : Nat → Int) : (callT (hX1) (execT (hX1) 100) 77 [.ints .u64 25 [g 0, g 1, g 2, g 3, g 4, g 5, g 6, g 7, g 8, g 9, g 10, g 11, g 12, g 13, g 14, g 15, g 16, g 17, g 18, g 19, g 20, g 21, g 22, g 23, g 24]] [] [] 0 []).map CR.v =
    (.need true
    (.need true
    (.need true
    (.need true
    (.need true
    (.need true
    (.need true
    (.need true
    (.need true
    (.need true
    (.need true
    (.need true
    (.need true
    (.need true
    (.need true
    (.need true
    (.need true
    (.need true
    (.need true
    (.need true
    (.need true
    (.need true
    (.need true
    (.need true
    (.need true
    (.leaf (.ints .u64 25 (mixL g)))))))))))))))))))))))))))) := by kernel_rfl
theorem mov_tree (g : Nat → Int) : (callT (hX1) (execT (hX1) 100) 78 [.ints .u64 25 [g 0, g 1, g 2, g 3, g 4, g 5, g 6, g 7, g 8, g 9, g 10, g 11, g 12, g 13, g 14, g 15, g 16, g 17, g 18, g 19, g 20, g 21, g 22, g 23, g 24]] [] [] 0 []).map CR.v =
    (.need true
    (.need true
    (.need true
    (.need true
    (.need true
    (.need true
    (.need true
    (.need true
    (.need true
    (.need true
    (.need true
    (.need true
    (.need true
    (.need true
    (.need true
    (.need true
    (.need true
    (.need true
    (.need true
    (.need true
    (.need true
    (.need true
    (.need true
    (.need true
    (.leaf (.ints .u64 25 (movL g))))))))))))))))))))))))))) := by kernel_rfl
theorem fol_tree (g : Nat → Int) : (callT (hX1) (execT (hX1) 100) 79 [.ints .u64 25 [g 0, g 1, g 2, g 3, g 4, g 5, g 6, g 7, g 8, g 9, g 10, g 11, g 12, g 13, g 14, g 15, g 16, g 17, g 18, g 19, g 20, g 21, g 22, g 23, g 24]] [] [] 0 []).map CR.v =
    (.leaf (.ints .u64 25 (folL g))) := by kernel_rfl
theorem mix_ok (l : List Int) : Pure Try.prog 77 [.ints .u64 25 l] (.ints .u64 25 (mixL (nthI l))) := by
  intro xs w hx
  have hl : l.length = 25 := by
    have h := hx
    simp only [RV1s, RV1] at h
    obtain ⟨_, _, ⟨h1, _⟩, _⟩ := h
    exact h1
  have h := Pure.by_tree mixed hX1 100 _ _ (mix_tree (nthI l)) (v' := .ints .u64 25 (mixL (nthI l))) (by simp only [T.holds, true_and]; exact (SameV.ints rfl).r)
  rw [show (AV.ints IntKind.u64 25 [nthI l 0, nthI l 1, nthI l 2, nthI l 3, nthI l 4, nthI l 5, nthI l 6, nthI l 7, nthI l 8, nthI l 9, nthI l 10, nthI l 11, nthI l 12, nthI l 13, nthI l 14, nthI l 15, nthI l 16, nthI l 17, nthI l 18, nthI l 19, nthI l 20, nthI l 21, nthI l 22, nthI l 23, nthI l 24]) = AV.ints IntKind.u64 25 l from congrArg _ (lst25_nth l hl)] at h
  exact h xs w hx
noncomputable def c_mixed : Ctr Try.prog := Ctr.of 77 (fun | [.ints .u64 25 l] => some ([], .ints .u64 25 (mixL (nthI l))) | _ => none) (by
  intro args ob v h hob
  split at h <;> simp only [Option.some.injEq, Prod.mk.injEq, reduceCtorEq] at h
  obtain ⟨rfl, rfl⟩ := h
  exact mix_ok _)
theorem mov_ok (l : List Int) : Pure Try.prog 78 [.ints .u64 25 l] (.ints .u64 25 (movL (nthI l))) := by
  intro xs w hx
  have hl : l.length = 25 := by
    have h := hx
    simp only [RV1s, RV1] at h
    obtain ⟨_, _, ⟨h1, _⟩, _⟩ := h
    exact h1
  have h := Pure.by_tree mixed hX1 100 _ _ (mov_tree (nthI l)) (v' := .ints .u64 25 (movL (nthI l))) (by simp only [T.holds, true_and]; exact (SameV.ints rfl).r)
  rw [show (AV.ints IntKind.u64 25 [nthI l 0, nthI l 1, nthI l 2, nthI l 3, nthI l 4, nthI l 5, nthI l 6, nthI l 7, nthI l 8, nthI l 9, nthI l 10, nthI l 11, nthI l 12, nthI l 13, nthI l 14, nthI l 15, nthI l 16, nthI l 17, nthI l 18, nthI l 19, nthI l 20, nthI l 21, nthI l 22, nthI l 23, nthI l 24]) = AV.ints IntKind.u64 25 l from congrArg _ (lst25_nth l hl)] at h
  exact h xs w hx
noncomputable def c_moved : Ctr Try.prog := Ctr.of 78 (fun | [.ints .u64 25 l] => some ([], .ints .u64 25 (movL (nthI l))) | _ => none) (by
  intro args ob v h hob
  split at h <;> simp only [Option.some.injEq, Prod.mk.injEq, reduceCtorEq] at h
  obtain ⟨rfl, rfl⟩ := h
  exact mov_ok _)
theorem fol_ok (l : List Int) : Pure Try.prog 79 [.ints .u64 25 l] (.ints .u64 25 (folL (nthI l))) := by
  intro xs w hx
  have hl : l.length = 25 := by
    have h := hx
    simp only [RV1s, RV1] at h
    obtain ⟨_, _, ⟨h1, _⟩, _⟩ := h
    exact h1
  have h := Pure.by_tree mixed hX1 100 _ _ (fol_tree (nthI l)) (v' := .ints .u64 25 (folL (nthI l))) (by simp only [T.holds, true_and]; exact (SameV.ints rfl).r)
  rw [show (AV.ints IntKind.u64 25 [nthI l 0, nthI l 1, nthI l 2, nthI l 3, nthI l 4, nthI l 5, nthI l 6, nthI l 7, nthI l 8, nthI l 9, nthI l 10, nthI l 11, nthI l 12, nthI l 13, nthI l 14, nthI l 15, nthI l 16, nthI l 17, nthI l 18, nthI l 19, nthI l 20, nthI l 21, nthI l 22, nthI l 23, nthI l 24]) = AV.ints IntKind.u64 25 l from congrArg _ (lst25_nth l hl)] at h
  exact h xs w hx
noncomputable def c_folded : Ctr Try.prog := Ctr.of 79 (fun | [.ints .u64 25 l] => some ([], .ints .u64 25 (folL (nthI l))) | _ => none) (by
  intro args ob v h hob
  split at h <;> simp only [Option.some.injEq, Prod.mk.injEq, reduceCtorEq] at h
  obtain ⟨rfl, rfl⟩ := h
  exact fol_ok _)
end Go.Proofs.Ytglcjmnkhmdlhaa

/- Contracts: hash.Permute. -/
namespace Go.Proofs.Ytglcjmnkhmdlhaa
open Go Go.RowKit
/-- The rounds' marks, bit by bit. -/
def rcsP : List (List Int) := [[1, 0, 0, 0, 0, 0, 0], [0, 2, 0, 128, 32768, 0, 0], [0, 2, 8, 128, 32768, 0, 9223372036854775808], [0, 0, 0, 0, 32768, 2147483648, 9223372036854775808], [1, 2, 8, 128, 32768, 0, 0], [1, 0, 0, 0, 0, 2147483648, 0], [1, 0, 0, 128, 32768, 2147483648, 9223372036854775808], [1, 0, 8, 0, 32768, 0, 9223372036854775808], [0, 2, 8, 128, 0, 0, 0], [0, 0, 8, 128, 0, 0, 0], [1, 0, 8, 0, 32768, 2147483648, 0], [0, 2, 8, 0, 0, 2147483648, 0], [1, 2, 8, 128, 32768, 2147483648, 0], [1, 2, 8, 128, 0, 0, 9223372036854775808], [1, 0, 8, 128, 32768, 0, 9223372036854775808], [1, 2, 0, 0, 32768, 0, 9223372036854775808], [0, 2, 0, 0, 32768, 0, 9223372036854775808], [0, 0, 0, 128, 0, 0, 9223372036854775808], [0, 2, 8, 0, 32768, 0, 0], [0, 2, 8, 0, 0, 2147483648, 9223372036854775808], [1, 0, 0, 128, 32768, 2147483648, 9223372036854775808], [0, 0, 0, 128, 32768, 0, 9223372036854775808], [1, 0, 0, 0, 0, 2147483648, 0], [0, 0, 8, 0, 32768, 2147483648, 9223372036854775808]]
def xorsL (cs : List Int) : List Int → List Int
  | [] => []
  | x :: t => cs.foldl (fun x c => ixor .u64 x c) x :: t
/-- A round. -/
def rndP (cs : List Int) (l : List Int) : List Int := xorsL cs (folL (nthI (movL (nthI (mixL (nthI l))))))
def rndsP : List (List Int) → List Int → List Int
  | [], l => l
  | cs :: r, l => rndsP r (rndP cs l)
def permP (l : List Int) : List Int := rndsP rcsP l
noncomputable def hX2 : EnvT Try.prog := { cs := [c_turn, c_mixed, c_moved, c_folded], fis := [fi_hash_Permute] }
theorem perm_tree (l : List Int) : (callT (hX2) (execT (hX2) 200) 61 [.ints .u64 25 l] [] [] 0 []).map CR.v = (.leaf (.ints .u64 25 (permP l))) := by kernel_rfl
theorem permute_ok (l : List Int) : Pure Try.prog 61 [.ints .u64 25 l] (.ints .u64 25 (permP l)) :=
  Pure.by_tree mixed hX2 200 _ _ (perm_tree l) (SameV.ints rfl).r
noncomputable def c_permute : Ctr Try.prog := Ctr.of 61 (fun | [.ints .u64 25 l] => some ([], .ints .u64 25 (permP l)) | _ => none) (by
  intro args ob v h hob
  split at h <;> simp only [Option.some.injEq, Prod.mk.injEq, reduceCtorEq] at h
  obtain ⟨rfl, rfl⟩ := h
  exact permute_ok _)
end Go.Proofs.Ytglcjmnkhmdlhaa

/- Contracts: the document's turn, turns and marks (truceref05). -/
namespace Go.Proofs.Ytglcjmnkhmdlhaa
open Go Go.RowKit
def rotR (x n : Int) : Int := if n == 0 then x else ior .u64 (ishl .u64 x n) (ishr .u64 x (64 - n))
noncomputable def rX1 : EnvT Try.prog := { fis := [fi_truceref05_turn, fi_truceref05_turns, fi_truceref05_marks] }
theorem rturn_tree (x n : Int) : (callT (rX1) (execT (rX1) 100) 83 [.int .u64 x, .int .i64 n] [] [] 0 []).map CR.v =
    (.ite (n == (0 : Int))
     (.leaf (.int .u64 x))
     (.need (decide ((0 : Int) ≤ (IntKind.wrap .u64 n)))
     (.need (decide ((0 : Int) ≤ (IntKind.wrap .u64 (IntKind.wrap .i64 ((64 : Int) - n)))))
     (.leaf (.int .u64 (ior .u64 (ishl .u64 x (IntKind.wrap .u64 n)) (ishr .u64 x (IntKind.wrap .u64 (IntKind.wrap .i64 ((64 : Int) - n)))))))))) := by kernel_rfl
theorem rturn_ok (x n : Int) (h0 : 0 ≤ n) (h1 : n < 64) : Pure Try.prog 83 [.int .u64 x, .int .i64 n] (.int .u64 (rotR x n)) := by
  refine Pure.by_tree mixed rX1 100 _ _ (rturn_tree x n) ?_
  have e1 : IntKind.wrap .u64 n = n := by simp [IntKind.wrap, IntKind.signed, IntKind.bits]; omega
  have e2 : IntKind.wrap .i64 ((64 : Int) - n) = 64 - n := by simp [IntKind.wrap, IntKind.signed, IntKind.bits]; omega
  have e3 : IntKind.wrap .u64 ((64 : Int) - n) = 64 - n := by simp [IntKind.wrap, IntKind.signed, IntKind.bits]; omega
  rw [e1, e2, e3]
  refine ⟨fun h => ?_, fun h => ⟨decide_eq_true h0, decide_eq_true (by omega), ?_⟩⟩
  · exact (SameV.int (by unfold rotR; rw [if_pos h])).r
  · exact (SameV.int (by unfold rotR; rw [if_neg (by rw [h]; decide)])).r
noncomputable def c_rturn : Ctr Try.prog := Ctr.of 83 (fun | [.int .u64 x, .int .i64 n] => some ([decide (0 ≤ n), decide (n < 64)], .int .u64 (rotR x n)) | _ => none) (by
  intro args ob v h hob
  split at h <;> simp only [Option.some.injEq, Prod.mk.injEq, reduceCtorEq] at h
  obtain ⟨rfl, rfl⟩ := h
  exact rturn_ok _ _ (of_decide_eq_true (hob _ (by simp))) (of_decide_eq_true (hob (decide (_ < 64)) (by simp))))
def turnsR : List Int := [(0 : Int), (1 : Int), (62 : Int), (28 : Int), (27 : Int), (36 : Int), (44 : Int), (6 : Int), (55 : Int), (20 : Int), (3 : Int), (10 : Int), (43 : Int), (25 : Int), (39 : Int), (41 : Int), (45 : Int), (15 : Int), (21 : Int), (8 : Int), (18 : Int), (2 : Int), (61 : Int), (56 : Int), (14 : Int)]
def marksR : List Int := [(1 : Int), (32898 : Int), (9223372036854808714 : Int), (9223372039002292224 : Int), (32907 : Int), (2147483649 : Int), (9223372039002292353 : Int), (9223372036854808585 : Int), (138 : Int), (136 : Int), (2147516425 : Int), (2147483658 : Int), (2147516555 : Int), (9223372036854775947 : Int), (9223372036854808713 : Int), (9223372036854808579 : Int), (9223372036854808578 : Int), (9223372036854775936 : Int), (32778 : Int), (9223372039002259466 : Int), (9223372039002292353 : Int), (9223372036854808704 : Int), (2147483649 : Int), (9223372039002292232 : Int)]
theorem rturns_tree  : (callT (rX1) (execT (rX1) 100) 81 [] [] [] 0 []).map CR.v =
    (.leaf (.ints .i64 25 turnsR)) := by kernel_rfl
theorem rmarks_tree  : (callT (rX1) (execT (rX1) 100) 82 [] [] [] 0 []).map CR.v =
    (.leaf (.ints .u64 24 marksR)) := by kernel_rfl
noncomputable def c_rturns : Ctr Try.prog := Ctr.of 81 (fun | [] => some ([], .ints .i64 25 turnsR) | _ => none) (by
  intro args ob v h _
  split at h <;> simp at h
  obtain ⟨_, rfl⟩ := h
  exact Pure.by_tree mixed rX1 100 _ _ rturns_tree (SameV.ints rfl).r)
noncomputable def c_rmarks : Ctr Try.prog := Ctr.of 82 (fun | [] => some ([], .ints .u64 24 marksR) | _ => none) (by
  intro args ob v h _
  split at h <;> simp at h
  obtain ⟨_, rfl⟩ := h
  exact Pure.by_tree mixed rX1 100 _ _ rmarks_tree (SameV.ints rfl).r)
noncomputable def rX2 : EnvT Try.prog := { cs := [c_rturn, c_rturns, c_rmarks], fis := [fi_truceref05_Permute] }
end Go.Proofs.Ytglcjmnkhmdlhaa

/- Contracts: hash.Sum: a block's bytes are laid over the parts. -/
namespace Go.Proofs.Ytglcjmnkhmdlhaa
open Go Go.RowKit
noncomputable def absX : EnvT Try.prog := { fis := [fi_hash_Sum] }
/-- The blocks: the parts (1), the text, filled up (11), its slice (12). -/
def sumH (n : Nat) (l : List Int) (A : List Int) : Heap := [none, some ⟨77, .ints .u64 25 A, true⟩, none, none, none, none, none, none, none, none, none, some ⟨5, .ints .u8 n l, true⟩, some ⟨83, .sl 11 [(0, 0, 1)] n n, true⟩]
def abs_st (n : Nat) (l : List Int) (A : List Int) (b : ByteArray) (i : Int) : KS := ⟨⟨pat' [(3, .ptr 1 []), (4, .str b), (12, .int .i64 b.size), (13, .int .i64 i)] 0 48, sumH n l A, 13⟩, kpat [3, 4, 12] 0 48, []⟩
/-- Bytes, laid over the parts. -/
def absL (f : Nat → Int) (A : List Int) : Nat → List Int
  | 0 => A
  | i + 1 => (absL f A i).set (i / 8) (ixor .u64 ((absL f A i).getD (i / 8) (0 : Int)) (ishl .u64 (f i) ((i % 8 * 8 : Nat) : Int)))
def byF (b : ByteArray) (i : Nat) : Int := IntKind.wrap .u64 (byteAt b i)
theorem abs_body (n : Nat) (l : List Int) (A : List Int) (b : ByteArray) (i : Int) : stepT absX 100 fi_hash_Sum [0,1,0,0,1,0,1,0,1,1] [3, 4, 12, 13] 13 (kpat [3, 4, 12] 0 48) [] (abs_st n l A b i) =
    (.ite (decide (i < (((ByteArray.size b) : Nat) : Int)))
     (.need ((decide ((0 : Int) ≤ (IntKind.wrap .i64 (Int.tdiv i (8 : Int))))) && (decide ((IntKind.wrap .i64 (Int.tdiv i (8 : Int))) < (25 : Int))))
     (.need (Nat.ble ((Int.toNat (IntKind.wrap .i64 (Int.tdiv i (8 : Int)))) + 1) 25)
     (.need ((decide ((0 : Int) ≤ i)) && (decide (i < (((ByteArray.size b) : Nat) : Int))))
     (.need (decide ((0 : Int) ≤ (IntKind.wrap .i64 ((Int.tmod i (8 : Int)) * (8 : Int)))))
     (.need ((decide ((0 : Int) ≤ (IntKind.wrap .i64 (Int.tdiv i (8 : Int))))) && (decide ((IntKind.wrap .i64 (Int.tdiv i (8 : Int))) < (25 : Int))))
     (.need (Nat.ble ((Int.toNat (IntKind.wrap .i64 (Int.tdiv i (8 : Int)))) + 1) 25)
     (.leaf (.normal, abs_st n l (List.set A (Int.toNat (IntKind.wrap .i64 (Int.tdiv i (8 : Int)))) (ixor .u64 (List.getD A (Int.toNat (IntKind.wrap .i64 (Int.tdiv i (8 : Int)))) (0 : Int)) (ishl .u64 (IntKind.wrap .u64 (byteAt b (Int.toNat i))) (IntKind.wrap .i64 ((Int.tmod i (8 : Int)) * (8 : Int)))))) b (IntKind.wrap .i64 (i + (1 : Int)))))))))))
     (.leaf ((.exit 2), abs_st n l A b i))) := by kernel_rfl
theorem absSub : subC fi_hash_Sum.body [0,1,0,0,1,0,1,0,1,1] = some (.loop (loopAt fi_hash_Sum [0,1,0,0,1,0,1,0,1,1])) := loop_sub' (c := loopAt fi_hash_Sum [0,1,0,0,1,0,1,0,1,1]) (by kernel_rfl)
theorem h_tdiv8 {i : Nat} (h : i < 2 ^ 60) : IntKind.wrap .i64 (Int.tdiv (i : Int) (8 : Int)) = ((i / 8 : Nat) : Int) := by
  have e : Int.tdiv (i : Int) (8 : Int) = ((i / 8 : Nat) : Int) := rfl
  rw [e, cv_wrap (by omega) (by omega)]
theorem h_tmod8 {i : Nat} : IntKind.wrap .i64 ((Int.tmod (i : Int) (8 : Int)) * (8 : Int)) = ((i % 8 * 8 : Nat) : Int) := by
  have e : Int.tmod (i : Int) (8 : Int) = ((i % 8 : Nat) : Int) := rfl
  rw [e, cv_wrap (by omega) (by omega)]
  omega
theorem h_nat (n : Nat) : Int.toNat ((n : Nat) : Int) = n := Int.toNat_natCast n
theorem abs_loop (n : Nat) (l : List Int) (A : List Int) (b : ByteArray) (hb : b.size ≤ 200) : CodeR Try.prog (.loop (loopAt fi_hash_Sum [0,1,0,0,1,0,1,0,1,1])) (abs_st n l A b 0).s
    (fun e s' => e = .exit 2 ∧ s' = (abs_st n l (absL (byF b) A b.size) b b.size).s) CT.none := by
  refine loop_rule mixed (C := CT.none) fi_hash_Sum [0,1,0,0,1,0,1,0,1,1] [3, 4, 12, 13] 13 (kpat [3, 4, 12] 0 48) [] (σ := Nat) (fun i => abs_st n l (absL (byF b) A i) b i) 100 (fun i => i ≤ b.size) (fun i => b.size - i)
    (fun e s' => e = .exit 2 ∧ s' = (abs_st n l (absL (byF b) A b.size) b b.size).s) absSub (fun _ => Nat.le_refl 13) ?_ 0 (Nat.zero_le _)
  intro i hi
  refine ⟨absX, ?_⟩
  rw [abs_body]
  refine ⟨fun hc => ?_, fun hc => ?_⟩
  · have h0 : i < b.size := by simp at hc; omega
    rw [h_tdiv8 (by omega), h_tmod8, h_nat, h_nat, cv_wrap (n := (i : Int) + 1) (by omega) (by omega)]
    refine ⟨by simp; omega, by rw [Nat.ble_eq]; omega, by simp; omega, by simp; omega, by simp; omega, by rw [Nat.ble_eq]; omega, i + 1, h0, Nat.sub_lt_sub_left h0 (Nat.lt_succ_self i), Sim.of_eq ?_⟩
    have e : ((i : Int) + 1) = ((i + 1 : Nat) : Int) := by omega
    rw [e]; rfl
  · have h0 : i = b.size := by simp at hc; omega
    subst h0
    exact ⟨rfl, rfl⟩
noncomputable def absLC : LCT Try.prog CT.none := LCT.fam (σ := Nat × List Int × List Int × ByteArray) fi_hash_Sum [0,1,0,0,1,0,1,0,1,1]
  (fun ks => match sget ks.s.ss 4, hget ks.s.H 1, hget ks.s.H 11 with
    | .str b, some x, some y => match x.v, y.v with
      | .ints .u64 25 A, .ints .u8 n l => some (n, l, A, b)
      | _, _ => none
    | _, _, _ => none)
  (fun v => (abs_st v.1 v.2.1 v.2.2.1 v.2.2.2 0).s) (fun v => Nat.ble v.2.2.2.size 200) (.exit 2) (fun v => abs_st v.1 v.2.1 (absL (byF v.2.2.2) v.2.2.1 v.2.2.2.size) v.2.2.2 v.2.2.2.size) absSub
  (fun v h => abs_loop _ _ _ _ (Nat.le_of_ble_eq_true h))
end Go.Proofs.Ytglcjmnkhmdlhaa

/- Contracts: hash.Sum: the range over the blocks. -/
namespace Go.Proofs.Ytglcjmnkhmdlhaa
open Go Go.RowKit
noncomputable def sumX0 : EnvT Try.prog := { cs := [c_permute], fis := [fi_hash_Sum], lcs := [absLC] }
def sum_ss : List AV := pat' [(3, (.ptr 1 [])), (9, (.fn 76 [.ptr 12 []]))] 0 48
def sum_kn : List Bool := kpat [3, 9] 0 48
abbrev sumR := RecC Try.prog fi_hash_Sum [0, 1, 0, 1, 1] sum_ss
noncomputable def sumItX (R : sumR) : EnvT Try.prog R.C := { fis := [fi_hash_blocks_1], yl := some (R.L, yalR sumX0 100 fi_hash_Sum [0, 1, 0, 1, 1] sum_ss sum_kn), yok := yalR_ok mixed sumX0 100 sum_kn R }
noncomputable def sum_it (yv : AV) (n : Nat) (l : List Int) (A : List Int) (at' : Int) : KS := ⟨⟨pat' [(0, yv), (1, (.ptr 12 [])), (3, (.int .i64 at'))] 0 19, sumH n l A, 13⟩, kpat [0, 1] 0 19, []⟩
theorem sumRG : evS sum_ss (rfG fi_hash_Sum [0, 1, 0, 1, 1]) = .fn 76 [.ptr 12 []] := by kernel_rfl
def blkB (l : List Int) (i : Int) : ByteArray := bytesOf (List.take ((Int.toNat (IntKind.wrap .i64 (i + (136 : Int)))) - (Int.toNat i)) (List.drop (0 + (Int.toNat i)) l))
theorem sum_body (R : sumR) (n : Nat) (l : List Int) (A : List Int) (i : Int) : stepT (sumItX R) 100 fi_hash_blocks_1 [0,1] [0, 1, 3] 13 (kpat [0, 1] 0 19) [] (sum_it R.yv n l A i) =
    (.ite (decide (i < ((n : Nat) : Int)))
     (.need ((decide ((0 : Int) ≤ (IntKind.wrap .i64 (i + (136 : Int))))) && (decide ((IntKind.wrap .i64 (i + (136 : Int))) ≤ ((n : Nat) : Int))))
     (.need ((decide ((0 : Int) ≤ i)) && (decide (i ≤ (((Int.toNat (IntKind.wrap .i64 (i + (136 : Int)))) : Nat) : Int))))
     (.need (Nat.ble ((Int.toNat i) + 1) n)
     (.need (Nat.ble ((0 + (Int.toNat i)) + ((Int.toNat (IntKind.wrap .i64 (i + (136 : Int)))) - (Int.toNat i))) n)
     (.need (Nat.beq (RecC.L R) (RecC.L R))
     (.need (decide ((blkB l i) = (blkB l i)))
     (.need ((((ByteArray.size (blkB l i)) : Nat) : Int) == (((ByteArray.size (blkB l i)) : Nat) : Int))
     (.need true
     (.need (true && (A == A))
     (.need ((Nat.beq n n) && (l == l))
     (.need ((Nat.beq n n) && (Nat.beq n n))
     (.need (Nat.ble (ByteArray.size (blkB l i)) 200)
     (.leaf (.normal, sum_it R.yv n l (permP (absL (byF (blkB l i)) A (ByteArray.size (blkB l i)))) (IntKind.wrap .i64 (i + (136 : Int)))))))))))))))))
     (.leaf ((.exit 0), sum_it R.yv n l A i))) := by kernel_rfl
theorem sumSub : subC fi_hash_blocks_1.body [0, 1] = some (.loop (loopAt fi_hash_blocks_1 [0, 1])) := loop_sub' (c := loopAt fi_hash_blocks_1 [0, 1]) (by kernel_rfl)
/-- The parts behind so many blocks. -/
def blkL (l : List Int) : Nat → List Int
  | 0 => List.replicate 25 (0 : Int)
  | j + 1 => permP (absL (fun i => l.getD (136 * j + i) (0 : Int)) (blkL l j) 136)
theorem absL_congr {f g : Nat → Int} (A : List Int) : ∀ n, (∀ i, i < n → f i = g i) → absL f A n = absL g A n
  | 0, _ => rfl
  | n + 1, h => by
    simp only [absL]
    rw [absL_congr A n (fun i hi => h i (by omega)), h n (by omega)]
theorem blkB_size {l : List Int} {K j : Nat} (hl : l.length = 136 * K) (hj : j < K) (hK : 136 * K < 2 ^ 60) : (blkB l ((136 * j : Nat) : Int)).size = 136 := by
  unfold blkB
  rw [cv_wrap (by omega) (by omega)]
  have e1 : Int.toNat (((136 * j : Nat) : Int) + 136) = 136 * j + 136 := by omega
  rw [e1, h_nat]
  simp only [bytesOf, ByteArray.size, List.size_toArray, List.length_map, List.length_take, List.length_drop]
  omega
theorem blkB_at {l : List Int} {K j i : Nat} (hl : l.length = 136 * K) (hb : ∀ x ∈ l, 0 ≤ x ∧ x < 256) (hj : j < K) (hK : 136 * K < 2 ^ 60) (hi : i < 136) : byF (blkB l ((136 * j : Nat) : Int)) i = l.getD (136 * j + i) (0 : Int) := by
  unfold byF blkB
  rw [cv_wrap (by omega) (by omega)]
  have e1 : Int.toNat (((136 * j : Nat) : Int) + 136) = 136 * j + 136 := by omega
  rw [e1, h_nat]
  have hlt : 136 * j + i < l.length := by omega
  have hx := hb (l[136 * j + i]) (List.getElem_mem hlt)
  simp only [byteAt, bytesOf, List.getD_eq_getElem?_getD, List.getElem?_map, List.getElem?_take, List.getElem?_drop]
  rw [if_pos (show i < 136 * j + 136 - 136 * j by omega), show 0 + 136 * j + i = 136 * j + i by omega, List.getElem?_eq_getElem hlt]
  simp only [Option.map_some, Option.getD_some]
  have e2 : ((UInt8.ofNat (l[136 * j + i]).toNat).toNat : Int) = l[136 * j + i] := by
    rw [UInt8.toNat_ofNat']
    have : (l[136 * j + i]).toNat < 256 := by omega
    rw [Nat.mod_eq_of_lt (by omega)]
    omega
  rw [e2]
  simp [IntKind.wrap, IntKind.signed, IntKind.bits]
  omega
theorem sum_loop (R : sumR) (K : Nat) (l : List Int) (hl : l.length = 136 * K) (hb : ∀ x ∈ l, 0 ≤ x ∧ x < 256) (hK : 136 * K < 2 ^ 60) : CodeR Try.prog (.loop (loopAt fi_hash_blocks_1 [0, 1])) (sum_it R.yv (136 * K) l (List.replicate 25 (0 : Int)) 0).s
    (fun e s' => e = .exit 0 ∧ s' = (sum_it R.yv (136 * K) l (blkL l K) ((136 * K : Nat) : Int)).s) R.C := by
  refine loop_rule mixed (C := R.C) fi_hash_blocks_1 [0, 1] [0, 1, 3] 13 (kpat [0, 1] 0 19) [] (σ := Nat) (fun j => sum_it R.yv (136 * K) l (blkL l j) ((136 * j : Nat) : Int)) 100 (fun j => j ≤ K) (fun j => K - j)
    (fun e s' => e = .exit 0 ∧ s' = (sum_it R.yv (136 * K) l (blkL l K) ((136 * K : Nat) : Int)).s) sumSub (fun _ => Nat.le_refl 13) ?_ 0 (Nat.zero_le _)
  intro j hj
  refine ⟨sumItX R, ?_⟩
  rw [sum_body]
  refine ⟨fun hc => ?_, fun hc => ?_⟩
  · have h0 : j < K := by simp at hc; omega
    have hw : IntKind.wrap .i64 (((136 * j : Nat) : Int) + 136) = ((136 * (j + 1) : Nat) : Int) := by rw [cv_wrap (by omega) (by omega)]; omega
    rw [hw, h_nat, h_nat, blkB_size hl h0 hK]
    refine ⟨by simp; omega, by simp; omega, by rw [Nat.ble_eq]; omega, by rw [Nat.ble_eq]; omega, Nat.beq_refl _, by simp, by simp, rfl, by simp, by simp, by simp, by decide, j + 1, h0, Nat.sub_lt_sub_left h0 (Nat.lt_succ_self j), Sim.of_eq ?_⟩
    rw [absL_congr (f := byF (blkB l ((136 * j : Nat) : Int))) (g := fun i => l.getD (136 * j + i) (0 : Int)) _ 136 (fun i hi => blkB_at hl hb h0 hK hi)]
    rfl
  · have h0 : j = K := by simp at hc; omega
    subst h0
    exact ⟨rfl, rfl⟩
end Go.Proofs.Ytglcjmnkhmdlhaa

/- Contracts: hash.Sum: its text from where the builder is made on. -/
namespace Go.Proofs.Ytglcjmnkhmdlhaa
open Go Go.RowKit
section
variable {P : Program}
/-- The tail's law, out of one entry's state; what it asks for is said to hold. -/
def CLT.bld2 (hm : P.follows .mixedOrders = true) (D : Bld P) (hz : (zeroValue D.T).run P = fun w => .ok (.agg #[.pointer none, .slice none 0 0]) w) (X : EnvT P) (n m : Nat) (gi : FI P) (path : List Nat) (s0 : St) (kn kh : List Bool) (keep : List Nat) (nk' : Nat) (t : T (Ex × St)) (kn' kh' : List Bool)
    (ht : ∀ b (Φ : Ex × St → Prop), t.holds Φ → ((tailB D X n m b gi path ⟨s0, kn, kh⟩).map (fun r => (r.1, (⟨keepBS keep 0 r.2.1.s.ss, r.2.1.s.H, nk'⟩ : St)))).holds Φ) : CLT P where
  f := gi.f
  path := path
  g := fun ks => match fitSt s0 ks.s with
    | some ob => .needs ob (t.map fun r => (r.1, ⟨r.2, kn', kh'⟩))
    | none => .bad
  ok := by
    intro fi c hf hs ks
    have hfi := FI.ext' hf
    subst hfi
    intro r ρ B W a w Q _ hst h
    split at h
    case h_2 => exact h.elim
    rename_i ob hft
    rw [T.holds_needs] at h
    obtain ⟨h1, h2⟩ := h
    have hst0 := fitSt_sound hft h1 hst
    rw [T.holds_map] at h2
    have h2 := ht w.heap.size _ h2
    rw [T.holds_map] at h2
    refine tailB_sound hm D hz X n m _ path hs ⟨s0, kn, kh⟩ hst0 (h2.mono ?_)
    intro x hx ρ' a' w' hle hst'
    exact hx ρ' a' w' hle ⟨fun i => keepBS_get keep 0 _ i (hst'.sl i), by show (keepBS keep 0 _).length = _; rw [keepBS_len]; exact hst'.len, hst'.df, hst'.rep⟩
end
/-- What so many bytes that are written ask for. -/
def wrT {α : Type} (b : Nat) (k : T α) : Nat → Nat → T α
  | _, 0 => k
  | i, r + 1 => .need (Nat.beq b b) (.need (Nat.ble (i + 1) 140737488355328) (wrT b k (i + 1) r))
theorem wrT_holds {α : Type} {b : Nat} {k : T α} {Φ : α → Prop} (h : k.holds Φ) : ∀ (r i : Nat), i + r ≤ 140737488355328 → (wrT b k i r).holds Φ
  | 0, _, _ => h
  | r + 1, i, hi => ⟨Nat.beq_refl _, by rw [Nat.ble_eq]; omega, wrT_holds h r (i + 1) (by omega)⟩
/-- A byte of the sum. -/
def outF (A : List Int) (i : Nat) : Int := IntKind.wrap .u8 (ishr .u64 (A.getD (i / 8) (0 : Int)) ((i % 8 * 8 : Nat) : Int))
def outL (A : List Int) : List Int := [outF A 0, outF A 1, outF A 2, outF A 3, outF A 4, outF A 5, outF A 6, outF A 7, outF A 8, outF A 9, outF A 10, outF A 11, outF A 12, outF A 13, outF A 14, outF A 15, outF A 16, outF A 17, outF A 18, outF A 19, outF A 20, outF A 21, outF A 22, outF A 23, outF A 24, outF A 25, outF A 26, outF A 27, outF A 28, outF A 29, outF A 30, outF A 31]
theorem outF_in (A : List Int) (i : Nat) : inByte (outF A i) = true := by
  unfold outF
  simp [inByte, IntKind.wrap, IntKind.signed, IntKind.bits]
  omega
theorem outL_in (A : List Int) : List.all (outL A) inByte = true := by simp [outL, outF_in]
noncomputable def tlX : EnvT Try.prog := { fis := [fi_hash_Sum] }
def tl_s (n : Nat) (l A : List Int) : St := ⟨pat' [(3, (.ptr 1 []))] 0 48, sumH n l A, 13⟩
def tl_e (n : Nat) (l A : List Int) : St := ⟨pat' [(2, (.str (bytesOf (outL A))))] 0 48, sumH n l A, 13⟩
set_option maxRecDepth 100000 in
theorem tl_tree (n b : Nat) (l A : List Int) : ((tailB bldD tlX 100 60 b fi_hash_Sum [1,1,1] ⟨tl_s n l A, kpat [3] 0 48, []⟩).map (fun r => (r.1, (⟨keepBS [2] 0 r.2.1.s.ss, r.2.1.s.H, 13⟩ : St)))) =
    wrT b (.need (Nat.beq b b) (.need (List.all (outL A) inByte) (.leaf (.ret, tl_e n l A)))) 0 32 := by kernel_rfl
noncomputable def tlC (n : Nat) (l A : List Int) : CLT Try.prog := CLT.bld2 mixed bldD bldD_zero tlX 100 60 fi_hash_Sum [1,1,1] (tl_s n l A) (kpat [3] 0 48) [] [2] 13 (.leaf (.ret, tl_e n l A)) (kpat [2] 0 48) []
  (by
    intro b Φ h
    rw [tl_tree]
    exact wrT_holds (k := .need (Nat.beq b b) (.need (List.all (outL A) inByte) (.leaf (Ex.ret, tl_e n l A)))) ⟨Nat.beq_refl _, outL_in A, h⟩ 32 0 (by omega))
end Go.Proofs.Ytglcjmnkhmdlhaa

/- Contracts: hash.Sum: its run. -/
namespace Go.Proofs.Ytglcjmnkhmdlhaa
open Go Go.RowKit
theorem sum_loop' (R : sumR) (n : Nat) (l : List Int) (hn : n % 136 = 0) (hl : l.length = n) (hb : ∀ x ∈ l, 0 ≤ x ∧ x < 256) (hK : n < 2 ^ 60) : CodeR Try.prog (.loop (loopAt fi_hash_blocks_1 [0, 1])) (sum_it R.yv n l (List.replicate 25 (0 : Int)) 0).s
    (fun e s' => e = .exit 0 ∧ s' = (sum_it R.yv n l (blkL l (n / 136)) (n : Int)).s) R.C := by
  have e : n = 136 * (n / 136) := by omega
  generalize n / 136 = K at *
  subst e
  exact sum_loop R K l hl hb hK
def sum_s0 (n : Nat) (l : List Int) : St := ⟨pat' [(1, (.ptr 12 [])), (3, (.int .i64 0))] 0 19, sumH n l (List.replicate 25 (0 : Int)), 13⟩
/-- The bytes of a text, filled up. -/
structure PadOK (n : Nat) (l : List Int) : Prop where
  hn : n % 136 = 0
  hl : l.length = n
  hb : ∀ x ∈ l, 0 ≤ x ∧ x < 256
  hK : n < 2 ^ 60
noncomputable def sumLC (R : sumR) (n : Nat) (l : List Int) (h : PadOK n l) : LCT Try.prog R.C := LCT.oneY fi_hash_blocks_1 [0, 1] 0 R.L (sum_s0 n l) (.exit 0) (sum_it R.yv n l (blkL l (n / 136)) (n : Int)) sumSub (sum_loop' R n l h.hn h.hl h.hb h.hK)
noncomputable def sumItX' (R : sumR) (n : Nat) (l : List Int) (h : PadOK n l) : EnvT Try.prog R.C := { sumItX R with lcs := [sumLC R n l h] }
noncomputable def sumHE (n : Nat) (l : List Int) : Heap := sumH n l (blkL l (n / 136))
theorem sumIt_tree (R : sumR) (n : Nat) (l : List Int) (h : PadOK n l) : (callT (sumItX' R n l h) (execT (sumItX' R n l h) 100) 76 (R.yv :: [.ptr 12 []]) [] (sumH n l (List.replicate 25 (0 : Int))) 13 []).map CR.H =
    (.need (Nat.beq (RecC.L R) (RecC.L R))
    (.need true
    (.need true
    (.need ((Nat.beq n n) && (l == l))
    (.need ((Nat.beq n n) && (Nat.beq n n))
    (.leaf (sumHE n l))))))) := by kernel_rfl
theorem sumRSub : subC fi_hash_Sum.body [0, 1, 0, 1, 1] = some (.rangeFunc (rfG fi_hash_Sum [0, 1, 0, 1, 1]) (rfP fi_hash_Sum [0, 1, 0, 1, 1]) (rfA fi_hash_Sum [0, 1, 0, 1, 1]) (rfB fi_hash_Sum [0, 1, 0, 1, 1])) := by kernel_rfl
theorem sum_hit (n : Nat) (l : List Int) (h : PadOK n l) (R : sumR) : ((callT (sumItX' R n l h) (execT (sumItX' R n l h) 100) 76 (R.yv :: [.ptr 12 []]) [] (sumH n l (List.replicate 25 (0 : Int))) 13 []).map CR.H).holds fun rH => ∀ (ρ : Env) (B : Fr) (W w : World), Rep ρ rH B W w → ∃ ρ2, (∀ j b, j < (sumH n l (List.replicate 25 (0 : Int))).length → ρ j = some b → ρ2 j = some b) ∧ Rep ρ2 (sumHE n l) B W w := by
  rw [sumIt_tree]
  simp only [T.holds, beq_self_eq_true, Nat.beq_refl, true_and, Bool.and_self]
  intro ρ B W w h
  exact ⟨ρ, fun _ _ _ h => h, h⟩
set_option maxRecDepth 100000 in
noncomputable def sumRF (n : Nat) (l : List Int) (h : PadOK n l) : RFT Try.prog := RFT.one mixed fi_hash_Sum [0, 1, 0, 1, 1] sumRSub ⟨sum_ss, sumH n l (List.replicate 25 (0 : Int)), 13⟩ [] 76 [.ptr 12 []] sumRG rfl (sumHE n l) ⟨⟨sum_ss, sumHE n l, 13⟩, sum_kn, []⟩ ⟨rfl, rfl⟩ (fun R => ⟨sumItX' R n l h, 100, sum_hit n l h R⟩)
def padZ (s : ByteArray) : Int := IntKind.wrap .i64 ((IntKind.wrap .i64 ((((ByteArray.size s) : Nat) : Int) + (136 : Int))) - (Int.tmod (((ByteArray.size s) : Nat) : Int) (136 : Int)))
def padN (s : ByteArray) : Nat := Int.toNat (padZ s)
def pad0 (s : ByteArray) : List Int := cpyL (List.replicate (padN s) (0 : Int)) 0 (strL s (Nat.min (ByteArray.size s) (padN s)))
def pad1 (s : ByteArray) : List Int := List.set (pad0 s) (0 + (Int.toNat (((ByteArray.size s) : Nat) : Int))) (ior .u8 (List.getD (pad0 s) (0 + (Int.toNat (((ByteArray.size s) : Nat) : Int))) (0 : Int)) (1 : Int))
def padE (s : ByteArray) : Nat := 0 + Int.toNat (IntKind.wrap .i64 (((padN s : Nat) : Int) - (1 : Int)))
def padI (s : ByteArray) : List Int := List.set (pad1 s) (padE s) (ior .u8 (List.getD (pad1 s) (padE s) (0 : Int)) (128 : Int))
noncomputable def sumX (s : ByteArray) : EnvT Try.prog := { fis := [fi_hash_Sum, fi_hash_blocks], cls := [tlC (padN s) (padI s) (blkL (padI s) (padN s / 136))] }
theorem sum_tree (s : ByteArray) (h : PadOK (padN s) (padI s)) : (callM (sumX s) [sumRF (padN s) (padI s) h] 100 20 41 [.str s] [] [] 0 []).map CR.v =
    (.need (roomK 1 (padZ s) (padZ s))
    (.need (Nat.ble (0 + (padN s)) (padN s))
    (.need ((decide ((0 : Int) ≤ (((ByteArray.size s) : Nat) : Int))) && (decide ((((ByteArray.size s) : Nat) : Int) < (((padN s) : Nat) : Int))))
    (.need (Nat.ble ((0 + (Int.toNat (((ByteArray.size s) : Nat) : Int))) + 1) (padN s))
    (.need ((decide ((0 : Int) ≤ (((ByteArray.size s) : Nat) : Int))) && (decide ((((ByteArray.size s) : Nat) : Int) < (((padN s) : Nat) : Int))))
    (.need (Nat.ble ((0 + (Int.toNat (((ByteArray.size s) : Nat) : Int))) + 1) (padN s))
    (.need ((decide ((0 : Int) ≤ (IntKind.wrap .i64 ((((padN s) : Nat) : Int) - (1 : Int))))) && (decide ((IntKind.wrap .i64 ((((padN s) : Nat) : Int) - (1 : Int))) < (((padN s) : Nat) : Int))))
    (.need (Nat.ble ((padE s) + 1) (padN s))
    (.need ((decide ((0 : Int) ≤ (IntKind.wrap .i64 ((((padN s) : Nat) : Int) - (1 : Int))))) && (decide ((IntKind.wrap .i64 ((((padN s) : Nat) : Int) - (1 : Int))) < (((padN s) : Nat) : Int))))
    (.need (Nat.ble ((padE s) + 1) (padN s))
    (.need true
    (.need ((Nat.beq (padN s) (padN s)) && ((padI s) == (padI s)))
    (.need ((Nat.beq (padN s) (padN s)) && (Nat.beq (padN s) (padN s)))
    (.need (true && ((blkL (padI s) ((padN s) / 136)) == (blkL (padI s) ((padN s) / 136))))
    (.need ((Nat.beq (padN s) (padN s)) && ((padI s) == (padI s)))
    (.need ((Nat.beq (padN s) (padN s)) && (Nat.beq (padN s) (padN s)))
    (.leaf (.str (bytesOf (outL (blkL (padI s) ((padN s) / 136)))))))))))))))))))))) := by kernel_rfl
end Go.Proofs.Ytglcjmnkhmdlhaa

/- Contracts: hash.Sum. -/
namespace Go.Proofs.Ytglcjmnkhmdlhaa
open Go Go.RowKit
theorem padN_eq {s : ByteArray} (h : s.size < 2 ^ 40) : padZ s = ((s.size + 136 - s.size % 136 : Nat) : Int) ∧ padN s = s.size + 136 - s.size % 136 := by
  have e : padZ s = ((s.size + 136 - s.size % 136 : Nat) : Int) := by
    unfold padZ
    have e1 : Int.tmod ((s.size : Nat) : Int) (136 : Int) = ((s.size % 136 : Nat) : Int) := rfl
    rw [cv_wrap (n := (s.size : Int) + 136) (by omega) (by omega), e1, cv_wrap (by omega) (by omega)]
    omega
  exact ⟨e, by unfold padN; rw [e]; rfl⟩
theorem strL_len (s : ByteArray) : (strL s s.size).length = s.size := by
  unfold strL
  rw [List.length_map, List.length_take]
  have : s.data.toList.length = s.size := rfl
  omega
theorem strL_in (s : ByteArray) (n : Nat) : ∀ x ∈ strL s n, 0 ≤ x ∧ x < 256 := by
  intro x hx
  simp only [strL, List.mem_map] at hx
  obtain ⟨b, _, rfl⟩ := hx
  have := b.toNat_lt
  omega
theorem pad0_eq {s : ByteArray} (h : s.size < 2 ^ 40) : pad0 s = strL s s.size ++ List.replicate (136 - s.size % 136) (0 : Int) := by
  obtain ⟨_, h2⟩ := padN_eq h
  unfold pad0
  rw [show s.size.min (padN s) = s.size from Nat.min_eq_left (by omega)]
  unfold cpyL
  rw [List.take_zero, List.nil_append, Nat.zero_add, strL_len, List.drop_replicate]
  congr 2
  omega
theorem pad0_in {s : ByteArray} (h : s.size < 2 ^ 40) : ∀ x ∈ pad0 s, 0 ≤ x ∧ x < 256 := by
  rw [pad0_eq h]
  intro x hx
  rw [List.mem_append] at hx
  rcases hx with hx | hx
  · exact strL_in s _ x hx
  · rw [List.mem_replicate] at hx
    omega
theorem pad0_len {s : ByteArray} (h : s.size < 2 ^ 40) : (pad0 s).length = padN s := by
  rw [pad0_eq h, List.length_append, strL_len, List.length_replicate, (padN_eq h).2]
  omega
theorem pad0_at {s : ByteArray} (h : s.size < 2 ^ 40) {i : Nat} (hi : s.size ≤ i) : (pad0 s).getD i (0 : Int) = 0 := by
  rw [pad0_eq h, List.getD_eq_getElem?_getD, List.getElem?_append_right (by rw [strL_len]; exact hi), List.getElem?_replicate]
  split <;> rfl
theorem pad1_eq {s : ByteArray} (h : s.size < 2 ^ 40) : pad1 s = (pad0 s).set s.size (1 : Int) := by
  unfold pad1
  rw [h_nat, Nat.zero_add, pad0_at h (Nat.le_refl _)]
  rfl
theorem padE_eq {s : ByteArray} (h : s.size < 2 ^ 40) : padE s = padN s - 1 := by
  have := (padN_eq h).2
  unfold padE
  rw [cv_wrap (by omega) (by omega)]
  omega
theorem pad1_last {s : ByteArray} (h : s.size < 2 ^ 40) : (pad1 s).getD (padN s - 1) (0 : Int) = if s.size = padN s - 1 then 1 else 0 := by
  have h2 := (padN_eq h).2
  rw [pad1_eq h, List.getD_eq_getElem?_getD, List.getElem?_set]
  split
  · rename_i he
    rw [if_pos (by rw [pad0_len h]; omega)]
    rfl
  · rw [← List.getD_eq_getElem?_getD, pad0_at h (by omega)]
theorem padI_eq {s : ByteArray} (h : s.size < 2 ^ 40) : padI s = (pad1 s).set (padN s - 1) (if s.size = padN s - 1 then 129 else 128) := by
  unfold padI
  rw [padE_eq h, pad1_last h]
  split <;> rfl
theorem padI_ok {s : ByteArray} (h : s.size < 2 ^ 40) : PadOK (padN s) (padI s) := by
  have h2 := (padN_eq h).2
  refine ⟨?_, ?_, ?_, by omega⟩
  · rw [h2]; omega
  · rw [padI_eq h, List.length_set, pad1_eq h, List.length_set, pad0_len h]
  · intro x hx
    rw [padI_eq h, pad1_eq h] at hx
    rcases List.mem_or_eq_of_mem_set hx with hx | hx
    · rcases List.mem_or_eq_of_mem_set hx with hx | hx
      · exact pad0_in h x hx
      · omega
    · split at hx <;> omega
/-- The sum of a text. -/
def hashS (s : ByteArray) : ByteArray := bytesOf (outL (blkL (padI s) (padN s / 136)))
theorem sum_ok (s : ByteArray) (h : s.size < 2 ^ 40) : Pure Try.prog 41 [.str s] (.str (hashS s)) := by
  obtain ⟨h1, h2⟩ := padN_eq h
  refine Pure.by_range mixed (sumX s) [sumRF (padN s) (padI s) (padI_ok h)] 100 20 _ _ (sum_tree s (padI_ok h)) ?_
  have e : IntKind.wrap .i64 (((padN s : Nat) : Int) - (1 : Int)) = ((padN s : Nat) : Int) - 1 := cv_wrap (by omega) (by omega)
  have ez : padZ s = ((padN s : Nat) : Int) := by rw [h1, h2]
  rw [padE_eq h, e, ez, h_nat]
  have hd : (decide (0 ≤ ((s.size : Nat) : Int)) && decide (((s.size : Nat) : Int) < ((padN s : Nat) : Int))) = true := by simp; omega
  have hb : Nat.ble (0 + s.size + 1) (padN s) = true := by rw [Nat.ble_eq]; omega
  have hc : (decide (0 ≤ ((padN s : Nat) : Int) - 1) && decide (((padN s : Nat) : Int) - 1 < ((padN s : Nat) : Int))) = true := by simp; omega
  have hl : Nat.ble (padN s - 1 + 1) (padN s) = true := by rw [Nat.ble_eq]; omega
  have hN : (Nat.beq (padN s) (padN s) && Nat.beq (padN s) (padN s)) = true := by rw [Nat.beq_refl]; rfl
  have hI : (Nat.beq (padN s) (padN s) && (padI s == padI s)) = true := by rw [Nat.beq_refl, beq_self_eq_true]; rfl
  refine ⟨?_, by rw [Nat.ble_eq]; omega, hd, hb, hd, hb, hc, hl, hc, hl, rfl, hI, hN, by rw [beq_self_eq_true]; rfl, hI, hN, (SameV.str rfl).r⟩
  unfold roomK
  simp
  omega
noncomputable def c_hsum : Ctr Try.prog := Ctr.of 41 (fun | [.str s] => some ([decide (s.size < 2 ^ 40)], .str (hashS s)) | _ => none) (by
  intro args ob v h hob
  split at h <;> simp only [Option.some.injEq, Prod.mk.injEq, reduceCtorEq] at h
  obtain ⟨rfl, rfl⟩ := h
  exact sum_ok _ (of_decide_eq_true (hob _ (by simp))))
end Go.Proofs.Ytglcjmnkhmdlhaa

